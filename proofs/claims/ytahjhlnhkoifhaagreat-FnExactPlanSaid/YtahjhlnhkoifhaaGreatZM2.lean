/- Regions that draw their order: the checks, and every order. -/
import Derived.Test.YtahjhlnhkoifhaaGreatZM
set_option linter.unusedVariables false
set_option linter.unusedSimpArgs false
namespace Go.Lev

def ltB (n : Nat) (k : Nat) : Bool := decide (k < n)
theorem envS_none : ∀ {fs : FL} {ts : TL} {k0 : Nat} {env : Env} {D : Nat → Bool}, (∀ k, k0 ≤ k → D k = false) → envS D k0 env fs ts = env
  | [], ts, k0, env, D, h => by cases ts <;> rfl
  | (b, f) :: fs, [], k0, env, D, h => rfl
  | (b, f) :: fs, (v, pre) :: ts, k0, env, D, h => by
    simp only [envS, h k0 (Nat.le_refl _), Bool.false_eq_true, if_false]
    exact envS_none (fun k hk => h k (by omega))
theorem heapS_none : ∀ {ts : TL} {k0 : Nat} {H : Heap} {D : Nat → Bool}, (∀ k, k0 ≤ k → D k = false) → heapS D k0 H ts = H
  | [], k0, H, D, h => rfl
  | (v, pre) :: ts, k0, H, D, h => by
    simp only [heapS, h k0 (Nat.le_refl _), Bool.false_eq_true, if_false]
    exact heapS_none (fun k hk => h k (by omega))
/-- The step at an index, in the order of the text. -/
theorem runT_at {S : Sig} {hide : List Nat} {H0 : Heap} : ∀ {fs : FL} {ts : TL} {k0 i : Nat} {env : Env} {H : Heap} {b : Bool} {f : FOp} {v : LV} {pre : Heap}, runT S hide H0 env H fs ts → fs[i]? = some (b, f) → ts[i]? = some (v, pre) →
    stepF S (envS (ltB (k0 + i)) k0 env fs ts) (hq hide H0 b) (heapS (ltB (k0 + i)) k0 H ts) f = some (v, pre ++ heapS (ltB (k0 + i)) k0 H ts) ∧ (∀ n, look pre n ≠ none → look H0 n = none ∨ n ∈ hide) ∧ (f.k.isE = false → pre = [])
  | [], _, _, _, _, _, _, _, _, _, _, h, _ => by simp at h
  | _ :: _, [], _, _, _, _, _, _, _, _, _, _, h => by simp at h
  | (b0, f0) :: fs, (v0, pre0) :: ts, k0, 0, env, H, b, f, v, pre, hr, h, ht => by
    obtain ⟨rfl, rfl⟩ := Prod.mk.inj (Option.some.inj (show some (b0, f0) = some (b, f) from h))
    obtain ⟨rfl, rfl⟩ := Prod.mk.inj (Option.some.inj (show some (v0, pre0) = some (v, pre) from ht))
    rw [envS_none (fun k hk => by simp [ltB]; omega), heapS_none (fun k hk => by simp [ltB]; omega)]
    exact ⟨hr.1, hr.2.1, hr.2.2.1⟩
  | (b0, f0) :: fs, (v0, pre0) :: ts, k0, i + 1, env, H, b, f, v, pre, hr, h, ht => by
    have := runT_at (k0 := k0 + 1) (i := i) hr.2.2.2 (by simpa using h) (by simpa using ht)
    rw [show k0 + 1 + i = k0 + (i + 1) by omega] at this
    have hl : ltB (k0 + (i + 1)) k0 = true := by simp [ltB]
    simp only [envS, heapS, hl, if_true]
    exact this
theorem envS_all : ∀ {fs : FL} {ts : TL} {k0 : Nat} {env : Env} {D : Nat → Bool}, (∀ k, k < k0 + fs.length → D k = true) → envS D k0 env fs ts = envT env fs ts
  | [], ts, k0, env, D, h => by cases ts <;> rfl
  | (b, f) :: fs, [], k0, env, D, h => rfl
  | (b, f) :: fs, (v, pre) :: ts, k0, env, D, h => by
    simp only [envS, envT, h k0 (by simp), if_true]
    exact envS_all (fun k hk => h k (by simp at hk ⊢; omega))
theorem heapS_all : ∀ {ts : TL} {k0 : Nat} {H : Heap} {D : Nat → Bool}, (∀ k, k < k0 + ts.length → D k = true) → heapS D k0 H ts = heapT H ts
  | [], k0, H, D, h => rfl
  | (v, pre) :: ts, k0, H, D, h => by
    simp only [heapS, heapT, h k0 (by simp), if_true]
    exact heapS_all (fun k hk => h k (by simp at hk ⊢; omega))

/-! ### The checks -/
def EK.isNew : EK → Bool
  | .alloc _ => true
  | .box _ _ => true
  | _ => false
/-- An effect that is not only a new variable. -/
def FK.isHard : FK → Bool
  | .e k => !k.isNew
  | _ => false
def chkPair (bits : Array Nat) (i : Nat) (p : Bool × FOp) (j : Nat) (q : Bool × FOp) : Bool :=
  (decide (i = j) || p.2.d.isNone || decide (p.2.d ≠ q.2.d)) &&
  (match q.2.d with
   | some s => !p.2.uses.contains s || (decide (j < i) && (bits.getD i 0).testBit j)
   | none => true) &&
  (!(decide (j < i) && p.2.k.isE && q.2.k.isE && (p.2.k.isHard || q.2.k.isHard)) || (bits.getD i 0).testBit j) &&
  (!(p.1 && !p.2.k.isE && q.2.k.isHard) || (decide (i < j) && (bits.getD j 0).testBit i))
def chkRow (bits : Array Nat) (i : Nat) (p : Bool × FOp) : Nat → FL → Bool
  | _, [] => true
  | j, q :: r => chkPair bits i p j q && chkRow bits i p (j + 1) r
def chkRows (bits : Array Nat) (all : FL) : Nat → FL → Bool
  | _, [] => true
  | i, p :: r => chkRow bits i p 0 all && chkRows bits all (i + 1) r
theorem chkRow_spec {bits : Array Nat} {i : Nat} {p : Bool × FOp} : ∀ {r : FL} {j0 j : Nat} {q : Bool × FOp}, chkRow bits i p j0 r = true → r[j]? = some q → chkPair bits i p (j0 + j) q = true
  | [], _, _, _, _, h => by simp at h
  | q0 :: r, j0, 0, q, hc, h => by
    simp only [chkRow, Bool.and_eq_true] at hc
    obtain rfl := Option.some.inj (show some q0 = some q from h)
    exact hc.1
  | q0 :: r, j0, j + 1, q, hc, h => by
    simp only [chkRow, Bool.and_eq_true] at hc
    have := chkRow_spec (j := j) hc.2 (by simpa using h)
    rwa [show j0 + 1 + j = j0 + (j + 1) by omega] at this
theorem chkRows_spec {bits : Array Nat} {all : FL} : ∀ {r : FL} {i0 i j : Nat} {p q : Bool × FOp}, chkRows bits all i0 r = true → r[i]? = some p → all[j]? = some q → chkPair bits (i0 + i) p j q = true
  | [], _, _, _, _, _, _, h, _ => by simp at h
  | p0 :: r, i0, 0, j, p, q, hc, h, hq => by
    simp only [chkRows, Bool.and_eq_true] at hc
    obtain rfl := Option.some.inj (show some p0 = some p from h)
    have := chkRow_spec hc.1 hq
    rwa [Nat.zero_add] at this
  | p0 :: r, i0, i + 1, j, p, q, hc, h, hq => by
    simp only [chkRows, Bool.and_eq_true] at hc
    have := chkRows_spec (i := i) hc.2 (by simpa using h) hq
    rwa [show i0 + 1 + i = i0 + (i + 1) by omega] at this
end Go.Lev
