/- Regions that draw their order: the state of a set of operations that are done. -/
import Derived.Test.YtahjhlnhkoifhaaGreatZL
set_option linter.unusedVariables false
set_option linter.unusedSimpArgs false
namespace Go.Lev

abbrev FL := List (Bool × FOp)
abbrev TL := List (LV × Heap)
def envS (D : Nat → Bool) : Nat → Env → FL → TL → Env
  | k, env, (_, f) :: r, (v, _) :: ts => envS D (k + 1) (if D k then put f.d v env else env) r ts
  | _, env, _, _ => env
def heapS (D : Nat → Bool) : Nat → Heap → TL → Heap
  | k, H, (_, pre) :: ts => heapS D (k + 1) (if D k then pre ++ H else H) ts
  | _, H, [] => H

theorem look_put (d : Option Nat) (v : LV) (env : Env) (s : Nat) : look (put d v env) s = if d = some s then some v else look env s := by
  cases d with
  | none => simp [put]
  | some d =>
    simp only [put, look_cons]
    by_cases e : s = d
    · simp [e]
    · rw [if_neg e, if_neg (by simpa using fun h => e h.symm)]

theorem envS_congr {D D' : Nat → Bool} {s : Nat} : ∀ {fs : FL} {ts : TL} {k0 : Nat} {env env' : Env}, (∀ k b f, fs[k]? = some (b, f) → f.d = some s → D (k0 + k) = D' (k0 + k)) → look env s = look env' s → look (envS D k0 env fs ts) s = look (envS D' k0 env' fs ts) s
  | [], ts, k0, env, env', h, he => by cases ts <;> exact he
  | (b, f) :: fs, [], k0, env, env', h, he => he
  | (b, f) :: fs, (v, pre) :: ts, k0, env, env', h, he => by
    simp only [envS]
    refine envS_congr (fun k b' f' hk hd => ?_) ?_
    · have := h (k + 1) b' f' (by simpa using hk) hd
      rwa [show k0 + 1 + k = k0 + (k + 1) by omega]
    · by_cases hd : f.d = some s
      · have := h 0 b f rfl hd
        rw [Nat.add_zero] at this
        rw [this]
        cases D' k0
        · simpa using he
        · simp only [if_true]
          rw [look_put, look_put, if_pos hd, if_pos hd]
      · have e1 : ∀ (p : Bool) (e : Env), look (if p then put f.d v e else e) s = look e s := by
          intro p e
          cases p
          · rfl
          · simp only [if_true]
            rw [look_put, if_neg hd]
        rw [e1, e1, he]
theorem envS_at {D : Nat → Bool} {s : Nat} : ∀ {fs : FL} {ts : TL} {k0 i : Nat} {env : Env} {b : Bool} {f : FOp} {v : LV} {pre : Heap}, fs[i]? = some (b, f) → ts[i]? = some (v, pre) → f.d = some s → D (k0 + i) = true → (∀ k b' f', k ≠ i → fs[k]? = some (b', f') → f'.d ≠ some s) → look (envS D k0 env fs ts) s = some v
  | [], _, _, _, _, _, _, _, _, h, _, _, _, _ => by simp at h
  | _ :: _, [], _, _, _, _, _, _, _, _, h, _, _, _ => by simp at h
  | (b0, f0) :: fs, (v0, pre0) :: ts, k0, 0, env, b, f, v, pre, h, ht, hd, hD, hne => by
    obtain ⟨rfl, rfl⟩ := Prod.mk.inj (Option.some.inj (show some (b0, f0) = some (b, f) from h))
    obtain ⟨rfl, rfl⟩ := Prod.mk.inj (Option.some.inj (show some (v0, pre0) = some (v, pre) from ht))
    simp only [envS]
    rw [Nat.add_zero] at hD
    rw [hD]
    simp only [if_true]
    have : look (envS D (k0 + 1) (put f0.d v0 env) fs ts) s = look (envS (fun _ => false) (k0 + 1) (put f0.d v0 env) fs ts) s :=
      envS_congr (fun k b' f' hk hd' => absurd hd' (hne (k + 1) b' f' (by omega) (by simpa using hk))) rfl
    rw [this]
    have none : ∀ {fs : FL} {ts : TL} {k0 : Nat} {env : Env}, envS (fun _ => false) k0 env fs ts = env := by
      intro fs
      induction fs with
      | nil => intro ts k0 env; cases ts <;> rfl
      | cons p fs ih =>
        intro ts k0 env
        obtain ⟨b, f⟩ := p
        cases ts with
        | nil => rfl
        | cons q ts => obtain ⟨v, pre⟩ := q; simp only [envS, Bool.false_eq_true, if_false]; exact ih
    rw [none, look_put, if_pos hd]
  | (b0, f0) :: fs, (v0, pre0) :: ts, k0, i + 1, env, b, f, v, pre, h, ht, hd, hD, hne => by
    simp only [envS]
    exact envS_at (i := i) (by simpa using h) (by simpa using ht) hd (by rw [show k0 + 1 + i = k0 + (i + 1) by omega]; exact hD) (fun k b' f' hk hk' => hne (k + 1) b' f' (by omega) (by simpa using hk'))

theorem heapS_congr {D D' : Nat → Bool} {n : Nat} : ∀ {ts : TL} {k0 : Nat} {H H' : Heap}, (∀ k v pre, ts[k]? = some (v, pre) → look pre n ≠ none → D (k0 + k) = D' (k0 + k)) → look H n = look H' n → look (heapS D k0 H ts) n = look (heapS D' k0 H' ts) n
  | [], k0, H, H', h, he => he
  | (v, pre) :: ts, k0, H, H', h, he => by
    simp only [heapS]
    refine heapS_congr (fun k v' pre' hk hp => ?_) ?_
    · have := h (k + 1) v' pre' (by simpa using hk) hp
      rwa [show k0 + 1 + k = k0 + (k + 1) by omega]
    · by_cases hp : look pre n = none
      · have e1 : ∀ (p : Bool) (e : Heap), look (if p then pre ++ e else e) n = look e n := by
          intro p e
          cases p
          · rfl
          · simp only [if_true]
            rw [look_append, hp]; rfl
        rw [e1, e1, he]
      · have := h 0 v pre rfl hp
        rw [Nat.add_zero] at this
        rw [this]
        cases D' k0
        · simpa using he
        · simp only [if_true]
          rw [look_append, look_append, he]
theorem heapS_eq {D D' : Nat → Bool} : ∀ {ts : TL} {k0 : Nat} {H : Heap}, (∀ k v pre, ts[k]? = some (v, pre) → pre ≠ [] → D (k0 + k) = D' (k0 + k)) → heapS D k0 H ts = heapS D' k0 H ts
  | [], k0, H, h => rfl
  | (v, pre) :: ts, k0, H, h => by
    simp only [heapS]
    have e : (if D k0 then pre ++ H else H) = (if D' k0 then pre ++ H else H) := by
      by_cases hp : pre = []
      · subst hp; simp
      · have := h 0 v pre rfl hp
        rw [Nat.add_zero] at this
        rw [this]
    rw [e]
    refine heapS_eq (fun k v' pre' hk hp => ?_)
    have := h (k + 1) v' pre' (by simpa using hk) hp
    rwa [show k0 + 1 + k = k0 + (k + 1) by omega]
theorem heapS_at {D : Nat → Bool} {n : Nat} {x : Option Rows} : ∀ {ts : TL} {k0 i : Nat} {H : Heap} {v : LV} {pre : Heap}, ts[i]? = some (v, pre) → look pre n = some x → D (k0 + i) = true → (∀ k v' pre', i < k → ts[k]? = some (v', pre') → D (k0 + k) = true → look pre' n = none) → look (heapS D k0 H ts) n = some x
  | [], _, _, _, _, _, h, _, _, _ => by simp at h
  | (v0, pre0) :: ts, k0, 0, H, v, pre, h, hp, hD, hne => by
    obtain ⟨rfl, rfl⟩ := Prod.mk.inj (Option.some.inj (show some (v0, pre0) = some (v, pre) from h))
    simp only [heapS]
    rw [Nat.add_zero] at hD
    rw [hD]
    simp only [if_true]
    have none : ∀ {ts : TL} {k0 : Nat} {H : Heap}, heapS (fun _ => false) k0 H ts = H := by
      intro ts
      induction ts with
      | nil => intro k0 H; rfl
      | cons q ts ih => intro k0 H; obtain ⟨v, pre⟩ := q; simp only [heapS, Bool.false_eq_true, if_false]; exact ih
    have : look (heapS D (k0 + 1) (pre0 ++ H) ts) n = look (heapS (fun _ => false) (k0 + 1) (pre0 ++ H) ts) n :=
      heapS_congr (fun k v' pre' hk hp' => by
        cases hd : D (k0 + 1 + k) with
        | false => rfl
        | true => exact absurd (hne (k + 1) v' pre' (by omega) (by simpa using hk) (by rw [show k0 + (k + 1) = k0 + 1 + k by omega]; exact hd)) hp') rfl
    rw [this, none, look_append, hp]; rfl
  | (v0, pre0) :: ts, k0, i + 1, H, v, pre, h, hp, hD, hne => by
    simp only [heapS]
    exact heapS_at (i := i) (by simpa using h) hp (by rw [show k0 + 1 + i = k0 + (i + 1) by omega]; exact hD) (fun k v' pre' hk hk' hd => hne (k + 1) v' pre' (by omega) (by simpa using hk') (by rw [show k0 + (k + 1) = k0 + 1 + k by omega]; exact hd))
end Go.Lev
