/- Regions that draw their order: one step of any order. -/
import Derived.Test.YtahjhlnhkoifhaaGreatZM3
set_option linter.unusedVariables false
set_option linter.unusedSimpArgs false
namespace Go.Lev

def ins (D : Nat → Bool) (i : Nat) (k : Nat) : Bool := decide (k = i) || D k

section
variable {P : Program} {c : Ctx} {S : Sig} {ops : Array Oper} {hide : List Nat} {H0 : Heap} {env0 : Env} {fs : FL} {ts : TL}

theorem Drawn.at (h : Drawn P c S ops hide H0 env0 fs ts) {i : Nat} {b : Bool} {f : FOp} {v : LV} {pre : Heap} (hp : fs[i]? = some (b, f)) (ht : ts[i]? = some (v, pre)) :
    stepF S (envS (ltB i) 0 env0 fs ts) (hq hide H0 b) (heapS (ltB i) 0 H0 ts) f = some (v, pre ++ heapS (ltB i) 0 H0 ts) ∧ (∀ n, look pre n ≠ none → look H0 n = none ∨ n ∈ hide) ∧ (f.k.isE = false → pre = []) := by
  have := runT_at (k0 := 0) h.run hp ht
  rwa [Nat.zero_add] at this

theorem nil_of_app {p H : Heap} (e : H = p ++ H) : p = [] := by
  have := congrArg List.length e
  rw [List.length_append] at this
  exact List.eq_nil_of_length_eq_zero (by omega)

/-- What a new variable's operation writes is free in all that comes before it in the text. -/
theorem Drawn.fresh (h : Drawn P c S ops hide H0 env0 fs ts) {i : Nat} {b : Bool} {f : FOp} {v : LV} {pre : Heap} (hp : fs[i]? = some (b, f)) (ht : ts[i]? = some (v, pre)) (hE : f.k.isE = true) (hh : f.k.isHard = false) {n : Nat} (hn : look pre n ≠ none) :
    look H0 n = none ∧ ∀ k v' pre', k < i → ts[k]? = some (v', pre') → look pre' n = none := by
  obtain ⟨h1, h2, h3⟩ := h.at hp ht
  cases hk : f.k with
  | q k => rw [hk] at hE; cases hE
  | pick x y z => rw [hk] at hE; cases hE
  | e k =>
    have hnew : k.isNew = true := by
      rw [hk] at hh
      simpa [FK.isHard] using hh
    obtain ⟨h4, _⟩ := stepF_new hk hnew h1
    rcases h4 with rfl | ⟨⟨x, rfl⟩, h5⟩
    · exact absurd rfl hn
    · have hnn : n = f.d.getD 0 * 1000 := by
        by_cases e : n = f.d.getD 0 * 1000
        · exact e
        · rw [look_cons, if_neg e] at hn
          exact absurd rfl hn
      rw [← hnn] at h5
      simp only [freshN, Bool.and_eq_true, Option.isNone_iff_eq_none] at h5
      obtain ⟨k1, k2⟩ := heapS_clear h5.1
      exact ⟨k1, fun k v' pre' hlt hk' => k2 k v' pre' hk' (by rw [Nat.zero_add]; simpa [ltB] using hlt)⟩

theorem Drawn.step (h : Drawn P c S ops hide H0 env0 fs ts) {D : Nat → Bool} {i : Nat} {p : Bool × FOp} (hp : fs[i]? = some p) (hi : D i = false) (hpre : ∀ j, bef ops j i = true → D j = true) (hclo : ∀ k j, D k = true → bef ops j k = true → D j = true) :
    ∃ v pre Hq, ts[i]? = some (v, pre) ∧ (∀ n x, live Hq n = some x → live (heapS D 0 H0 ts) n = some x) ∧ stepF S (envS D 0 env0 fs ts) Hq (heapS D 0 H0 ts) p.2 = some (v, pre ++ heapS D 0 H0 ts) ∧
      (∀ s, look (envS (ins D i) 0 env0 fs ts) s = look (put p.2.d v (envS D 0 env0 fs ts)) s) ∧ (∀ n, look (heapS (ins D i) 0 H0 ts) n = look (pre ++ heapS D 0 H0 ts) n) := by
  obtain ⟨b, f⟩ := p
  obtain ⟨v, pre, ht⟩ := h.ts_at hp
  obtain ⟨h1, h2, h3⟩ := h.at hp ht
  have hne : ∀ k, D k = true → k ≠ i := fun k hk e => by rw [e, hi] at hk; cases hk
  have hon : On f.uses (envS (ltB i) 0 env0 fs ts) (envS D 0 env0 fs ts) := by
    intro s hs
    refine envS_congr (fun k b' f' hk hd => ?_) rfl
    obtain ⟨_, k2, _⟩ := h.pair hp hk
    obtain ⟨q1, q2⟩ := k2 s hd hs
    rw [Nat.zero_add, hpre k q2]
    simpa [ltB] using q1
  have henv : ∀ s, look (envS (ins D i) 0 env0 fs ts) s = look (put f.d v (envS D 0 env0 fs ts)) s := by
    intro s
    rw [look_put]
    split
    · rename_i hd
      refine envS_at hp ht hd (by simp [ins]) (fun k b' f' hki hk hd' => ?_)
      obtain ⟨k1, _⟩ := h.pair hp hk
      rcases k1 with k1 | k1 | k1
      · exact hki k1.symm
      · simp only at k1; rw [hd] at k1; cases k1
      · simp only at k1; rw [hd, hd'] at k1; exact k1 rfl
    · rename_i hd
      refine envS_congr (fun k b' f' hk hd' => ?_) rfl
      simp only [ins, Nat.zero_add]
      by_cases e : k = i
      · subst e
        rw [hp] at hk
        obtain ⟨_, rfl⟩ := Prod.mk.inj (Option.some.inj hk)
        exact absurd hd' hd
      · simp [e]
  -- what a done operation behind 'i' writes
  have late : f.k.isE = true → ∀ k v' pre', i < k → D k = true → ts[k]? = some (v', pre') → (f.k.isHard = true → pre' = []) ∧ ∀ n, look pre n ≠ none → look pre' n = none := by
    intro hE k v' pre' hik hD hk
    obtain ⟨b', f', hk'⟩ := h.fs_at hk
    obtain ⟨q1, q2, q3⟩ := h.at hk' hk
    cases hE' : f'.k.isE with
    | false => rw [q3 hE']; exact ⟨fun _ => rfl, fun _ _ => rfl⟩
    | true =>
      have nohard : ¬ (f'.k.isHard = true ∨ f.k.isHard = true) := by
        intro hh
        obtain ⟨_, _, k3, _⟩ := h.pair hk' hp
        have := hclo k i hD (k3 hik hE' hE hh)
        rw [hi] at this
        cases this
      have hh' : f'.k.isHard = false := by
        cases e : f'.k.isHard with
        | false => rfl
        | true => exact absurd (.inl e) nohard
      refine ⟨fun hh => absurd (.inr hh) nohard, fun n hn => ?_⟩
      cases hl : look pre' n with
      | none => rfl
      | some x =>
        obtain ⟨_, r2⟩ := h.fresh hk' hk hE' hh' (n := n) (by rw [hl]; simp)
        exact absurd (r2 i v pre hik ht) hn
  have hheap : ∀ n, look (heapS (ins D i) 0 H0 ts) n = look (pre ++ heapS D 0 H0 ts) n := by
    intro n
    rw [look_append]
    cases hl : look pre n with
    | none =>
      rw [Option.none_or]
      refine heapS_congr (fun k v' pre' hk hp' => ?_) rfl
      simp only [ins, Nat.zero_add]
      by_cases e : k = i
      · subst e
        rw [ht] at hk
        obtain ⟨_, rfl⟩ := Prod.mk.inj (Option.some.inj hk)
        exact absurd hl hp'
      · simp [e]
    | some x =>
      have hE : f.k.isE = true := by
        cases e : f.k.isE with
        | true => rfl
        | false => rw [h3 e] at hl; cases hl
      refine heapS_at ht hl (by simp [ins]) (fun k v' pre' hik hk hd => ?_)
      rw [Nat.zero_add] at hd
      have hDk : D k = true := by
        simp only [ins, Bool.or_eq_true, decide_eq_true_eq] at hd
        exact hd.resolve_left (by omega)
      exact (late hE k v' pre' hik hDk hk).2 n (by rw [hl]; simp)
  cases hE : f.k.isE with
  | false =>
    obtain rfl := h3 hE
    refine ⟨v, [], hq hide H0 b, ht, ?_, ?_, henv, hheap⟩
    · -- what is read is still there
      intro n x hn
      have hkeep : look (hq hide H0 b) n = look H0 n ∧ (b = false → n ∉ hide) := by
        unfold hq at hn ⊢
        cases b with
        | true => exact ⟨rfl, fun e => by cases e⟩
        | false =>
          simp only [Bool.false_eq_true, if_false] at hn ⊢
          have hnh := (live_of_kills hn).1
          exact ⟨by rw [look_kills, if_neg hnh], fun _ => hnh⟩
      have hn0 : look H0 n ≠ none := by
        unfold live at hn
        rw [hkeep.1] at hn
        intro e
        rw [e] at hn
        cases hn
      unfold live at hn ⊢
      rw [hkeep.1] at hn
      rw [heapS_keep (fun k v' pre' hk hd => ?_)]
      · exact hn
      · rw [Nat.zero_add] at hd
        obtain ⟨b', f', hk'⟩ := h.fs_at hk
        obtain ⟨q1, q2, q3⟩ := h.at hk' hk
        cases hl : look pre' n with
        | none => rfl
        | some y =>
          exfalso
          rcases q2 n (by rw [hl]; simp) with q | q
          · exact hn0 q
          · cases b with
            | false => exact hkeep.2 rfl q
            | true =>
              have hE' : f'.k.isE = true := by
                cases e : f'.k.isE with
                | true => rfl
                | false => rw [q3 e] at hl; cases hl
              cases hh : f'.k.isHard with
              | false => exact hn0 (h.fresh hk' hk hE' hh (n := n) (by rw [hl]; simp)).1
              | true =>
                obtain ⟨_, _, _, k4⟩ := h.pair hp hk'
                obtain ⟨_, r2⟩ := k4 rfl hE hh
                have := hclo k i hd r2
                rw [hi] at this
                cases this
    · rw [← stepF_on hon]
      exact (stepF_quiet hE h1).2
  | true =>
    cases hh : f.k.isHard with
    | true =>
      have heq : heapS D 0 H0 ts = heapS (ltB i) 0 H0 ts := by
        refine heapS_eq (fun k v' pre' hk hne' => ?_)
        rw [Nat.zero_add]
        obtain ⟨b', f', hk'⟩ := h.fs_at hk
        obtain ⟨q1, q2, q3⟩ := h.at hk' hk
        have hE' : f'.k.isE = true := by
          cases e : f'.k.isE with
          | true => rfl
          | false => exact absurd (q3 e) hne'
        by_cases hki : k < i
        · obtain ⟨_, _, k3, _⟩ := h.pair hp hk'
          rw [hpre k (k3 hki hE hE' (.inl hh))]
          simpa [ltB] using hki
        · have : D k = false := by
            cases e : D k with
            | false => rfl
            | true =>
              have := hne k e
              exact absurd ((late hE k v' pre' (by omega) e hk).1 hh) hne'
          rw [this]
          simpa [ltB] using hki
      refine ⟨v, pre, heapS D 0 H0 ts, ht, fun _ _ k => k, ?_, henv, hheap⟩
      rw [← stepF_on hon, stepF_E (Hq' := hq hide H0 b) hE, heq]
      exact h1
    | false =>
      cases hk : f.k with
      | q k => rw [hk] at hE; cases hE
      | pick x y z => rw [hk] at hE; cases hE
      | e k =>
        have hnew : k.isNew = true := by
          rw [hk] at hh
          simpa [FK.isHard] using hh
        obtain ⟨h4, h5⟩ := stepF_new hk hnew h1
        refine ⟨v, pre, heapS D 0 H0 ts, ht, fun _ _ k => k, ?_, henv, hheap⟩
        rw [← stepF_on hon, stepF_E (Hq' := hq hide H0 b) (by rw [hE])]
        refine h5 _ (fun hne' => ?_)
        rcases h4 with rfl | ⟨⟨x, rfl⟩, h6⟩
        · exact absurd rfl hne'
        · have hl : look [(f.d.getD 0 * 1000, some x)] (f.d.getD 0 * 1000) ≠ none := by simp [look]
          obtain ⟨r1, r2⟩ := h.fresh hp ht hE hh hl
          simp only [freshN, Bool.and_eq_true, Option.isNone_iff_eq_none] at h6 ⊢
          refine ⟨?_, h6.2⟩
          rw [heapS_keep (fun k v' pre' hk' hd => ?_)]
          · exact r1
          · rw [Nat.zero_add] at hd
            by_cases hki : k < i
            · exact r2 k v' pre' hki hk'
            · have := hne k hd
              exact (late hE k v' pre' (by omega) hd hk').2 _ hl
end
end Go.Lev
