/- Regions that keep their order. -/
import Derived.Test.YtahjhlnhkoifhaaGreatZJ
set_option linter.unusedVariables false
set_option linter.unusedSimpArgs false
namespace Go.Lev

def chkG (ops : Array Oper) (g : Option (Nat × Bool)) (o : Oper) : Bool :=
  match g, o.guard with
  | none, none => true
  | some (t, want), some (j, want') => (want == want') && (match ops[j]? with
    | some oj => decide (oj.dst = some t)
    | none => false)
  | _, _ => false
def chkF (P : Program) (nt : Nat) (ops : Array Oper) (f : FOp) (o : Oper) : Bool :=
  decide (o.dst = f.d) && chkG ops f.g o && chkK P f.k o && (match f.d with
    | some d => decide (d < nt)
    | none => true)
def chkFs (P : Program) (nt : Nat) (ops : Array Oper) : List FOp → List Oper → Bool
  | [], [] => true
  | f :: fs, o :: os => chkF P nt ops f o && chkFs P nt ops fs os
  | _, _ => false

section
variable {P : Program} {c : Ctx} {J : Nat → Prop} {loc : Nat → Loc} {φ : Nat → List Nat} {env : Env} {H Hq : Heap} {a : Act} {w : World} {S : Sig} {o : Oper}

theorem yields_bool {ops : Array Oper} {j t : Nat} {b : Bool} {oj : Oper} (hj : ops[j]? = some oj) (hd : oj.dst = some t) (h : a.tmps.getD t undef = .bool b) : yielded ops a.tmps j = some b := by
  unfold yielded
  simp only [hj, Option.bind_some, hd]
  rw [Array.getD_eq_getD_getElem?] at h
  cases hk : a.tmps[t]? with
  | none => rw [hk] at h; simp [undef] at h
  | some v =>
    rw [hk] at h
    have h : v = .bool b := h
    subst h
    rfl
theorem yields_none {ops : Array Oper} {j t : Nat} {oj : Oper} (hj : ops[j]? = some oj) (hd : oj.dst = some t) (h : ∀ b, a.tmps.getD t undef ≠ .bool b) : yielded ops a.tmps j = none := by
  unfold yielded
  simp only [hj, Option.bind_some, hd]
  rw [Array.getD_eq_getD_getElem?] at h
  cases hk : a.tmps[t]? with
  | none => rfl
  | some v =>
    rw [hk] at h
    cases v <;> first | rfl | exact absurd rfl (h _)

/-- One operation, run or skipped. -/
theorem f_ok (hS : SigOk P S) (h : SRx c J loc φ env H a w) (hsub : ∀ n x, live Hq n = some x → live H n = some x) {ops : Array Oper} {f : FOp} (hc : chkF P c.nt ops f o = true) {p : LV × Heap} (he : stepF S env Hq H f = some p) {K : Act → World → Prop} {Q : Exit → Act → World → Prop}
    (hK : ∀ a' w', SR c (put f.d p.1 env) p.2 a' w' → K a' w') : if Region.wanted o (yielded ops a.tmps) then o.wp P a w K Q else K (a.put o.dst undef) w := by
  unfold chkF at hc
  simp only [Bool.and_eq_true, decide_eq_true_eq] at hc
  obtain ⟨⟨⟨hdst, hg⟩, hk⟩, hnt⟩ := hc
  have hd : ∀ d, o.dst = some d → d < c.nt := by
    intro d hod
    rw [hdst] at hod
    rw [hod] at hnt
    simpa using hnt
  have run : evF S env Hq H (f.d.getD 0) f.k = some p → o.wp P a w K Q := by
    intro hev
    have := k_ok hS h hsub hd hk hev
    unfold Good at this
    rw [hdst] at this
    exact this K Q hK
  have skip : p = (.tup [], H) → K (a.put o.dst undef) w := by
    rintro rfl
    refine hK _ _ ?_
    rw [← hdst]
    cases ho : o.dst with
    | none => exact h.sr
    | some d =>
      refine (h.put (hd d ho) ?_).sr
      simp only [VRel]
      exact ⟨[], rfl, rfl⟩
  unfold chkG at hg
  split at hg
  · rename_i h1 h2
    have : Region.wanted o (yielded ops a.tmps) = true := by simp [Region.wanted, h2]
    rw [if_pos this]
    refine run ?_
    unfold stepF at he
    rw [h1] at he
    exact he
  · rename_i t want j want' h1 h2
    simp only [Bool.and_eq_true, beq_iff_eq] at hg
    obtain ⟨rfl, hg⟩ := hg
    split at hg
    · rename_i oj hj
      have hdj : oj.dst = some t := by simpa using hg
      unfold stepF at he
      rw [h1] at he
      simp only at he
      split at he
      · rename_i b hl
        have hv : a.tmps.getD t undef = .bool b := h.env t _ hl
        have hy := yields_bool hj hdj hv
        have hw : Region.wanted o (yielded ops a.tmps) = (b == want) := by
          simp only [Region.wanted, h2, hy]
          cases b <;> cases want <;> rfl
        rw [hw]
        split at he
        · rename_i hb
          subst hb
          rw [if_pos (by simp)]
          exact run he
        · rename_i hb
          rw [if_neg (by simpa using hb)]
          exact skip (Option.some.inj he).symm
      · rename_i hl
        have hv := h.env t _ hl
        simp only [VRel] at hv
        obtain ⟨vs, hv, _⟩ := hv
        have hy := yields_none hj hdj (fun b e => by rw [hv] at e; cases e)
        have hw : Region.wanted o (yielded ops a.tmps) = false := by
          simp only [Region.wanted, h2, hy]
          rfl
        rw [hw, if_neg (by simp)]
        exact skip (Option.some.inj he).symm
      · cases he
    · cases hg
  · cases hg

theorem fs_ok (hS : SigOk P S) {ops : Array Oper} {Q : Exit → Act → World → Prop} : ∀ {fs : List FOp} {os : List Oper} {i : Nat} {env : Env} {H : Heap} {a : Act} {w : World} {r : Env × Heap}, (∀ k, os[k]? = ops[i + k]?) → chkFs P c.nt ops fs os = true → SR c env H a w → runFl S (env, H) fs = some r →
    (∀ a' w', SR c r.1 r.2 a' w' → Q .normal a' w') → wpOps P ops Q (List.range' i os.length) a w
  | [], [], i, env, H, a, w, r, _, _, h, hr, hQ => by
    obtain rfl := Option.some.inj hr
    exact hQ a w h
  | [], _ :: _, _, _, _, _, _, _, _, hc, _, _, _ => by simp [chkFs] at hc
  | _ :: _, [], _, _, _, _, _, _, _, hc, _, _, _ => by simp [chkFs] at hc
  | f :: fs, o :: os, i, env, H, a, w, r, hi, hc, h, hr, hQ => by
    simp only [chkFs, Bool.and_eq_true] at hc
    simp only [runFl] at hr
    obtain ⟨p, hp, hr⟩ := Option.bind_eq_some_iff.1 hr
    obtain ⟨J, loc, φ, hx⟩ := h
    have hio : ops[i]? = some o := by rw [← Nat.add_zero i, ← hi 0]; rfl
    simp only [List.length_cons, List.range'_succ, wpOps, hio]
    have := f_ok (K := wpOps P ops Q (List.range' (i + 1) os.length)) (Q := Q) hS hx (fun _ _ k => k) hc.1 hp (fun a' w' hs => fs_ok hS (fun k => by have := hi (k + 1); rw [show i + 1 + k = i + (k + 1) by omega]; exact this) hc.2 hs hr hQ)
    split
    · rename_i hw
      rw [if_pos hw] at this
      exact .inl this
    · rename_i hw
      rw [if_neg hw] at this
      exact this

/-- A region that keeps its order. -/
theorem reg_ok (hS : SigOk P S) {ops : Array Oper} {id : Nat} {Q : Exit → Act → World → Prop} {rs : List ROp} {s s' : St} (hok : okL [] rs = true) (hc : chkFs P c.nt ops (flatL none rs) ops.toList = true) (h : SR c s.env s.heap a w) (hr : runR S s rs = some s')
    (hQ : ∀ a' w', SR c s'.env s'.heap a' w' → Q .normal a' w') : (Code.region id ops false).wp P Q a w := by
  obtain ⟨envF', X', k1, k2, k3⟩ := flatR_ok rs hok (X := []) (envF := s.env) (fun _ _ => rfl) (fun _ hs => by cases hs) hr
  refine wp_region ?_
  rw [List.range_eq_range', ← Array.length_toList]
  refine fs_ok hS (fun k => by simp) hc h k1 (fun a' w' hs => hQ a' w' ?_)
  obtain ⟨J, loc, φ, hx⟩ := hs
  refine (hx.weaken (fun x v hv => ?_)).sr
  by_cases e : x ∈ X'
  · exact .inl (k3 x e v hv)
  · exact .inr (by rw [← k2 x e]; exact hv)
end
end Go.Lev
