/- Regions that draw their order: one step of any order. -/
import Derived.Test.YtahjhlnhkoifhaaGreatZM2
set_option linter.unusedVariables false
set_option linter.unusedSimpArgs false
namespace Go.Lev

theorem heapS_clear {D : Nat → Bool} {n : Nat} : ∀ {ts : TL} {k0 : Nat} {H : Heap}, look (heapS D k0 H ts) n = none → look H n = none ∧ ∀ k v pre, ts[k]? = some (v, pre) → D (k0 + k) = true → look pre n = none
  | [], k0, H, h => ⟨h, fun k v pre hk => by simp at hk⟩
  | (v, pre) :: ts, k0, H, h => by
    simp only [heapS] at h
    obtain ⟨h1, h2⟩ := heapS_clear h
    cases hD : D k0 with
    | false =>
      rw [hD] at h1
      refine ⟨h1, fun k v' pre' hk hd => ?_⟩
      cases k with
      | zero => rw [Nat.add_zero, hD] at hd; cases hd
      | succ k => exact h2 k v' pre' (by simpa using hk) (by rw [show k0 + 1 + k = k0 + (k + 1) by omega]; exact hd)
    | true =>
      rw [hD] at h1
      simp only [if_true, look_append] at h1
      have hp : look pre n = none := by
        cases hl : look pre n with
        | none => rfl
        | some x => rw [hl] at h1; simp at h1
      refine ⟨by rw [hp] at h1; simpa using h1, fun k v' pre' hk hd => ?_⟩
      cases k with
      | zero =>
        obtain ⟨rfl, rfl⟩ := Prod.mk.inj (Option.some.inj (show some (v, pre) = some (v', pre') from hk))
        exact hp
      | succ k => exact h2 k v' pre' (by simpa using hk) (by rw [show k0 + 1 + k = k0 + (k + 1) by omega]; exact hd)
theorem heapS_keep {D : Nat → Bool} {n : Nat} : ∀ {ts : TL} {k0 : Nat} {H : Heap}, (∀ k v pre, ts[k]? = some (v, pre) → D (k0 + k) = true → look pre n = none) → look (heapS D k0 H ts) n = look H n
  | [], k0, H, h => rfl
  | (v, pre) :: ts, k0, H, h => by
    simp only [heapS]
    rw [heapS_keep (fun k v' pre' hk hd => h (k + 1) v' pre' (by simpa using hk) (by rw [show k0 + (k + 1) = k0 + 1 + k by omega]; exact hd))]
    cases hD : D k0 with
    | false => rfl
    | true =>
      simp only [if_true]
      rw [look_append, h 0 v pre rfl (by rw [Nat.add_zero]; exact hD)]
      rfl

/-- An operation that makes a variable: what it writes, and that it does so beside any heap in which the name is free. -/
theorem stepF_new {S : Sig} {env : Env} {Hq H : Heap} {f : FOp} {k : EK} {v : LV} {pre : Heap} (hk : f.k = .e k) (hn : k.isNew = true) (h : stepF S env Hq H f = some (v, pre ++ H)) :
    (pre = [] ∨ (∃ x, pre = [(f.d.getD 0 * 1000, some x)]) ∧ freshN H (f.d.getD 0 * 1000) = true) ∧ ∀ H', (pre ≠ [] → freshN H' (f.d.getD 0 * 1000) = true) → stepF S env Hq H' f = some (v, pre ++ H') := by
  obtain ⟨g, d, k'⟩ := f
  simp only at hk
  subst hk
  have nilp : ∀ {p : Heap}, H = p ++ H → p = [] := by
    intro p e
    have := congrArg List.length e
    rw [List.length_append] at this
    exact List.eq_nil_of_length_eq_zero (by omega)
  have h00 := h
  have key : evF S env Hq H (d.getD 0) (.e k) = some (v, pre ++ H) → (pre = [] ∨ (∃ x, pre = [(d.getD 0 * 1000, some x)]) ∧ freshN H (d.getD 0 * 1000) = true) ∧ ∀ H', (pre ≠ [] → freshN H' (d.getD 0 * 1000) = true) → evF S env Hq H' (d.getD 0) (.e k) = some (v, pre ++ H') := by
    clear h h00
    intro h
    cases k <;> simp only [EK.isNew] at hn <;> try (cases hn; done)
    · rename_i z
      simp only [evF, evE] at h ⊢
      split at h
      · rename_i hc
        obtain ⟨rfl, e⟩ := Prod.mk.inj (Option.some.inj h)
        have hp : pre = [(d.getD 0 * 1000, some [z])] := by
          have : [(d.getD 0 * 1000, some [z])] ++ H = pre ++ H := e
          exact (List.append_cancel_right this).symm
        subst hp
        refine ⟨.inr ⟨⟨_, rfl⟩, hc.1⟩, fun H' hf => ?_⟩
        rw [if_pos ⟨hf (by simp), hc.2⟩]
        rfl
      · cases h
    · rename_i n x
      simp only [evF, evE] at h ⊢
      obtain ⟨cs, hcs, h⟩ := Option.bind_eq_some_iff.1 h
      split at h
      · rename_i hc
        obtain ⟨rfl, e⟩ := Prod.mk.inj (Option.some.inj h)
        have hp : pre = [(d.getD 0 * 1000, some [cs])] := by
          have : [(d.getD 0 * 1000, some [cs])] ++ H = pre ++ H := e
          exact (List.append_cancel_right this).symm
        subst hp
        refine ⟨.inr ⟨⟨_, rfl⟩, hc.1⟩, fun H' hf => ?_⟩
        rw [hcs]
        simp only [Option.bind_some]
        rw [if_pos ⟨hf (by simp), hc.2⟩]
        rfl
      · cases h
  clear h
  have h := h00
  clear h00
  unfold stepF at h ⊢
  cases g with
  | none => exact key h
  | some q =>
    obtain ⟨t, want⟩ := q
    simp only at h ⊢
    split at h
    · rename_i b hl
      split at h
      · rename_i hb
        simp only [hb, if_true]
        exact key h
      · rename_i hb
        obtain ⟨rfl, e⟩ := Prod.mk.inj (Option.some.inj h)
        have hp := nilp e
        subst hp
        refine ⟨.inl rfl, fun H' _ => ?_⟩
        simp only [hb, if_false]
        rfl
    · obtain ⟨rfl, e⟩ := Prod.mk.inj (Option.some.inj h)
      have hp := nilp e
      subst hp
      exact ⟨.inl rfl, fun H' _ => rfl⟩
    · cases h
theorem stepF_E {S : Sig} {env : Env} {Hq Hq' H : Heap} {f : FOp} (h : f.k.isE = true) : stepF S env Hq H f = stepF S env Hq' H f := by
  obtain ⟨g, d, k⟩ := f
  cases k <;> simp only [FK.isE] at h <;> try (cases h; done)
  rfl

theorem SR.look {c : Ctx} {env : Env} {H : Heap} {a : Act} {w : World} (h : SR c env H a w) {env' : Env} {H' : Heap} (he : ∀ s, Lev.look env' s = Lev.look env s) (hH : ∀ n, Lev.look H' n = Lev.look H n) : SR c env' H' a w := by
  obtain ⟨J, loc, φ, hx⟩ := h
  exact ((hx.sameLook hH).weaken (fun s v hv => .inr (by rw [← he s]; exact hv))).sr

structure Drawn (P : Program) (c : Ctx) (S : Sig) (ops : Array Oper) (hide : List Nat) (H0 : Heap) (env0 : Env) (fs : FL) (ts : TL) : Prop where
  run : runT S hide H0 env0 H0 fs ts
  pairs : chkRows (Region.before ops) fs 0 fs = true
  chk : ∀ (i : Nat) (p : Bool × FOp), fs[i]? = some p → ∃ o, ops[i]? = some o ∧ chkF P c.nt ops p.2 o = true

section
variable {P : Program} {c : Ctx} {S : Sig} {ops : Array Oper} {hide : List Nat} {H0 : Heap} {env0 : Env} {fs : FL} {ts : TL}

theorem Drawn.ts_at (h : Drawn P c S ops hide H0 env0 fs ts) {k : Nat} {p : Bool × FOp} (hf : fs[k]? = some p) : ∃ v pre, ts[k]? = some (v, pre) := by
  have hl := runT_length h.run
  have hk := (List.getElem?_eq_some_iff.1 hf).1
  exact ⟨(ts[k]'(by omega)).1, (ts[k]'(by omega)).2, List.getElem?_eq_getElem (by omega)⟩
theorem Drawn.fs_at (h : Drawn P c S ops hide H0 env0 fs ts) {k : Nat} {v : LV} {pre : Heap} (ht : ts[k]? = some (v, pre)) : ∃ b f, fs[k]? = some (b, f) := by
  have hl := runT_length h.run
  have hk := (List.getElem?_eq_some_iff.1 ht).1
  exact ⟨(fs[k]'(by omega)).1, (fs[k]'(by omega)).2, List.getElem?_eq_getElem (by omega)⟩
theorem Drawn.pair (h : Drawn P c S ops hide H0 env0 fs ts) {i j : Nat} {p q : Bool × FOp} (hp : fs[i]? = some p) (hq : fs[j]? = some q) :
    (i = j ∨ p.2.d = none ∨ p.2.d ≠ q.2.d) ∧ (∀ s, q.2.d = some s → s ∈ p.2.uses → j < i ∧ bef ops j i = true) ∧ (j < i → p.2.k.isE = true → q.2.k.isE = true → (p.2.k.isHard = true ∨ q.2.k.isHard = true) → bef ops j i = true) ∧ (p.1 = true → p.2.k.isE = false → q.2.k.isHard = true → i < j ∧ bef ops i j = true) := by
  have := chkRows_spec h.pairs hp hq
  rw [Nat.zero_add] at this
  unfold chkPair at this
  simp only [Bool.and_eq_true] at this
  obtain ⟨⟨⟨h1, h2⟩, h3⟩, h4⟩ := this
  refine ⟨?_, ?_, ?_, ?_⟩
  · simp only [Bool.or_eq_true, decide_eq_true_eq, Option.isNone_iff_eq_none] at h1
    rcases h1 with (h1 | h1) | h1
    · exact .inl h1
    · exact .inr (.inl h1)
    · exact .inr (.inr h1)
  · intro s hs hu
    rw [hs] at h2
    simp only [Bool.or_eq_true, Bool.not_eq_true', Bool.and_eq_true, decide_eq_true_eq, List.contains_eq_mem, decide_eq_false_iff_not] at h2
    exact h2.resolve_left (fun k => k hu)
  · intro k1 k2 k3 k4
    simp only [Bool.or_eq_true, Bool.not_eq_true', Bool.and_eq_false_iff, decide_eq_false_iff_not, Bool.or_eq_false_iff] at h3
    rcases h3 with h3 | h3
    · exfalso
      rcases h3 with ((h3 | h3) | h3) | h3
      · exact h3 k1
      · rw [k2] at h3; cases h3
      · rw [k3] at h3; cases h3
      · rcases k4 with k4 | k4
        · rw [k4] at h3; cases h3.1
        · rw [k4] at h3; cases h3.2
    · exact h3
  · intro k1 k2 k3
    simp only [Bool.or_eq_true, Bool.not_eq_true', Bool.and_eq_false_iff, Bool.not_eq_false', Bool.and_eq_true, decide_eq_true_eq] at h4
    rcases h4 with h4 | h4
    · exfalso
      rcases h4 with (h4 | h4) | h4
      · rw [k1] at h4; cases h4
      · rw [k2] at h4; cases h4
      · rw [k3] at h4; cases h4
    · exact h4
end
end Go.Lev
