/- Regions, flat: each operation with its guard. -/
import Derived.Test.YtahjhlnhkoifhaaGreatZH
set_option linter.unusedVariables false
set_option linter.unusedSimpArgs false
namespace Go.Lev

inductive FK where
  | q (k : QK)
  | pick (c a b : Opd)
  | e (k : EK)
structure FOp where
  g : Option (Nat × Bool)
  d : Option Nat
  k : FK

def evF (S : Sig) (env : Env) (Hq H : Heap) (d : Nat) : FK → Option (LV × Heap)
  | .q k => (evQ S env Hq k).bind fun v => some (v, H)
  | .pick c a b => (asB (c.ev env)).bind fun p => some (if p then a.ev env else b.ev env, H)
  | .e k => evE S env H d k
def stepF (S : Sig) (env : Env) (Hq H : Heap) (f : FOp) : Option (LV × Heap) :=
  match f.g with
  | none => evF S env Hq H (f.d.getD 0) f.k
  | some (t, want) => match look env t with
    | some (.bool b) => if b = want then evF S env Hq H (f.d.getD 0) f.k else some (.tup [], H)
    | some (.tup []) => some (.tup [], H)
    | _ => none
def runFl (S : Sig) : Env × Heap → List FOp → Option (Env × Heap)
  | s, [] => some s
  | s, f :: r => (stepF S s.1 s.2 s.2 f).bind fun p => runFl S (put f.d p.1 s.1, p.2) r

def gof : Opd → Bool → Option (Nat × Bool)
  | .t s, w => some (s, w)
  | .c _, _ => none
mutual
def flat1 (g : Option (Nat × Bool)) : ROp → List FOp
  | .q d k => [⟨g, some d, .q k⟩]
  | .ch d c t a e b => flatL (gof c true) t ++ (flatL (gof c false) e ++ [⟨g, some d, .pick c a b⟩])
  | .e d k => [⟨g, d, .e k⟩]
def flatL (g : Option (Nat × Bool)) : List ROp → List FOp
  | [] => []
  | o :: r => flat1 g o ++ flatL g r
end

/-! ### Which temporaries are looked at -/
def Opd.uses : Opd → List Nat
  | .t s => [s]
  | .c _ => []
def opdsUses (xs : List Opd) : List Nat := xs.flatMap Opd.uses
def optUses : Option Opd → List Nat
  | none => []
  | some x => x.uses
def psUses (ps : List (Nat × Nat × Opd)) : List Nat := ps.flatMap fun p => p.2.2.uses
def QK.uses : QK → List Nat
  | .mov x => x.uses
  | .bin _ x y => x.uses ++ y.uses
  | .shift _ x y => x.uses ++ y.uses
  | .eq _ x y => x.uses ++ y.uses
  | .eqa _ _ x y => x.uses ++ y.uses
  | .un _ x => x.uses
  | .len x => x.uses
  | .lenS x => x.uses
  | .conv _ x => x.uses
  | .ext x _ => x.uses
  | .field _ _ _ x => x.uses
  | .build _ ps => psUses ps
  | .bslice _ _ ps => psUses ps
  | .load _ _ x => x.uses
  | .faddr _ x => x.uses
  | .iaddr _ x i => x.uses ++ i.uses
  | .iaddrA _ _ x i => x.uses ++ i.uses
  | .istr x i => x.uses ++ i.uses
  | .iagg _ _ _ x i => x.uses ++ i.uses
  | .slice _ x lo hi => x.uses ++ (optUses lo ++ optUses hi)
  | .sliceS x lo hi => x.uses ++ (optUses lo ++ optUses hi)
  | .mkfn _ caps => opdsUses caps
  | .max _ xs => opdsUses xs
  | .strB x => x.uses
  | .nilck x => x.uses
  | .call _ args => opdsUses args
  | .callv x args => x.uses ++ opdsUses args
def EK.uses : EK → List Nat
  | .alloc _ => []
  | .box _ x => x.uses
  | .store _ _ x v => x.uses ++ v.uses
  | .eload _ _ x => x.uses
  | .bslice _ _ ps => psUses ps
  | .mks _ _ l c => l.uses ++ c.uses
  | .app _ _ _ x y => x.uses ++ y.uses
  | .call _ args _ => opdsUses args

def On (l : List Nat) (env env' : Env) : Prop := ∀ s, s ∈ l → look env s = look env' s
theorem On.app {l m : List Nat} {env env' : Env} (h : On (l ++ m) env env') : On l env env' ∧ On m env env' :=
  ⟨fun s hs => h s (List.mem_append_left _ hs), fun s hs => h s (List.mem_append_right _ hs)⟩
theorem Opd.ev_on {x : Opd} {env env' : Env} (h : On x.uses env env') : x.ev env = x.ev env' := by
  cases x with
  | t s => simp only [Opd.ev]; rw [h s (by simp [Opd.uses])]
  | c v => rfl
theorem opds_on : ∀ {xs : List Opd} {env env' : Env}, On (opdsUses xs) env env' → xs.map (Opd.ev env) = xs.map (Opd.ev env')
  | [], _, _, _ => rfl
  | x :: xs, env, env', h => by
    have h' : On (x.uses ++ opdsUses xs) env env' := h
    rw [List.map_cons, List.map_cons, Opd.ev_on h'.app.1, opds_on h'.app.2]
theorem opt_on {x : Option Opd} {d : Int} {env env' : Env} (h : On (optUses x) env env') : optI env d x = optI env' d x := by
  cases x with
  | none => rfl
  | some x => simp only [optI]; rw [Opd.ev_on h]
theorem fillP_on : ∀ {ps : List (Nat × Nat × Opd)} {z : Row} {env env' : Env}, On (psUses ps) env env' → fillP env z ps = fillP env' z ps
  | [], _, _, _, _ => rfl
  | (off, n, x) :: ps, z, env, env', h => by
    have h' : On (x.uses ++ psUses ps) env env' := h
    simp only [fillP]
    rw [Opd.ev_on h'.app.1]
    congr 1
    funext cs
    split
    · exact fillP_on h'.app.2
    · rfl
theorem evQ_on {S : Sig} {env env' : Env} {H : Heap} {k : QK} (h : On k.uses env env') : evQ S env H k = evQ S env' H k := by
  cases k <;> simp only [QK.uses] at h <;> simp only [evQ] <;> first
    | rw [Opd.ev_on h]
    | rw [Opd.ev_on h.app.1, Opd.ev_on h.app.2]
    | rw [fillP_on h]
    | rw [Opd.ev_on h.app.1, opt_on h.app.2.app.1, opt_on h.app.2.app.2]
    | rw [opds_on h]
    | rw [Opd.ev_on h.app.1, opds_on h.app.2]
    | (rename_i mx xs
       cases xs with
       | nil => rfl
       | cons x r =>
         have h' : On (x.uses ++ opdsUses r) env env' := h
         simp only
         rw [Opd.ev_on h'.app.1, opds_on h'.app.2])
theorem evE_on {S : Sig} {env env' : Env} {H : Heap} {d : Nat} {k : EK} (h : On k.uses env env') : evE S env H d k = evE S env' H d k := by
  cases k <;> simp only [EK.uses] at h <;> simp only [evE] <;> first
    | rw [Opd.ev_on h]
    | rw [Opd.ev_on h.app.1, Opd.ev_on h.app.2]
    | rw [fillP_on h]
    | rw [opds_on h]
def FK.uses : FK → List Nat
  | .q k => k.uses
  | .pick c a b => c.uses ++ (a.uses ++ b.uses)
  | .e k => k.uses
theorem evF_on {S : Sig} {env env' : Env} {Hq H : Heap} {d : Nat} {k : FK} (h : On k.uses env env') : evF S env Hq H d k = evF S env' Hq H d k := by
  cases k <;> simp only [FK.uses] at h <;> simp only [evF]
  · rw [evQ_on h]
  · rw [Opd.ev_on h.app.1, Opd.ev_on h.app.2.app.1, Opd.ev_on h.app.2.app.2]
  · rw [evE_on h]
def FOp.uses (f : FOp) : List Nat := (match f.g with
  | some (t, _) => [t]
  | none => []) ++ f.k.uses
theorem stepF_on {S : Sig} {env env' : Env} {Hq H : Heap} {f : FOp} (h : On f.uses env env') : stepF S env Hq H f = stepF S env' Hq H f := by
  obtain ⟨g, d, k⟩ := f
  unfold stepF
  unfold FOp.uses at h
  cases g with
  | none =>
    simp only at h ⊢
    exact evF_on h.app.2
  | some p =>
    obtain ⟨t, want⟩ := p
    simp only at h ⊢
    rw [h.app.1 t (by simp), evF_on h.app.2]

/-! ### Nested and flat -/
def disjB (l m : List Nat) : Bool := l.all fun s => !m.contains s
theorem disjB_spec {l m : List Nat} (h : disjB l m = true) : ∀ s, s ∈ l → s ∉ m := by
  intro s hs
  unfold disjB at h
  have := List.all_eq_true.1 h s hs
  simpa using this
mutual
/-- No temporary of a choice's inside is looked at behind it; a choice's condition is a temporary. -/
def okR (X : List Nat) : ROp → Bool
  | .q d k => disjB k.uses X && !X.contains d
  | .ch d c t a e b => disjB c.uses X && okL X t && okL (dstsL t ++ X) e && disjB a.uses (innerL t ++ X) && disjB b.uses (innerL e ++ X) && !(dstsL t ++ dstsL e ++ X).contains d &&
      (match c with
       | .t s => !(dstsL t ++ dstsL e).contains s
       | .c _ => false) && disjB (dstsL t) (dstsL e) && skipL [] t && skipL [] e && disjB (a.uses) (dstsL e) && disjB (b.uses) (dstsL t)
  | .e d k => disjB k.uses X && (match d with
       | some d => !X.contains d
       | none => true)
def okL (X : List Nat) : List ROp → Bool
  | [] => true
  | o :: r => okR X o && okL (inner o ++ X) r
def inner : ROp → List Nat
  | .ch _ _ t _ e _ => dstsL t ++ dstsL e
  | _ => []
def innerL : List ROp → List Nat
  | [] => []
  | o :: r => inner o ++ innerL r
/-- In a branch: conditions of inner choices are set inside the branch. -/
def skip1 (D : List Nat) : ROp → Bool
  | .ch _ c t _ e _ => (match c with
       | .t s => D.contains s && !(dstsL t ++ dstsL e).contains s
       | .c _ => false) && skipL D t && skipL D e
  | .q _ _ => true
  | .e _ _ => false
def skipL (D : List Nat) : List ROp → Bool
  | [] => true
  | o :: r => skip1 D o && skipL (o.dsts ++ D) r
end

theorem runFl_app {S : Sig} : ∀ (xs ys : List FOp) (s : Env × Heap), runFl S s (xs ++ ys) = (runFl S s xs).bind fun s' => runFl S s' ys
  | [], ys, s => rfl
  | x :: xs, ys, s => by
    simp only [List.cons_append, runFl]
    cases stepF S s.1 s.2 s.2 x with
    | none => rfl
    | some p => simp only [Option.bind_some]; exact runFl_app xs ys _

/-- The guard does not let it run. -/
def Off (env : Env) : Option (Nat × Bool) → Prop
  | none => False
  | some (t, want) => look env t = some (.bool (!want)) ∨ look env t = some (.tup [])
def OnG (env : Env) : Option (Nat × Bool) → Prop
  | none => True
  | some (t, want) => look env t = some (.bool want)
def gt : Option (Nat × Bool) → List Nat
  | none => []
  | some (t, _) => [t]
theorem step_off {S : Sig} {env : Env} {Hq H : Heap} {f : FOp} (h : Off env f.g) : stepF S env Hq H f = some (.tup [], H) := by
  unfold stepF
  obtain ⟨g, d, k⟩ := f
  cases g with
  | none => exact h.elim
  | some p =>
    obtain ⟨t, want⟩ := p
    simp only [Off] at h
    rcases h with h | h
    · simp only [h]
      cases want <;> simp
    · simp only [h]
theorem step_on {S : Sig} {env : Env} {Hq H : Heap} {f : FOp} (h : OnG env f.g) : stepF S env Hq H f = evF S env Hq H (f.d.getD 0) f.k := by
  unfold stepF
  obtain ⟨g, d, k⟩ := f
  cases g with
  | none => rfl
  | some p =>
    obtain ⟨t, want⟩ := p
    simp only [OnG] at h
    simp only [h, if_true]
theorem Off_same {env env' : Env} {g : Option (Nat × Bool)} (h : Off env g) (he : ∀ s, s ∈ gt g → look env' s = look env s) : Off env' g := by
  cases g with
  | none => exact h
  | some p =>
    obtain ⟨t, w⟩ := p
    simp only [Off] at h ⊢
    rw [he t (by simp [gt])]
    exact h
theorem OnG_same {env env' : Env} {g : Option (Nat × Bool)} (h : OnG env g) (he : ∀ s, s ∈ gt g → look env' s = look env s) : OnG env' g := by
  cases g with
  | none => trivial
  | some p =>
    obtain ⟨t, w⟩ := p
    simp only [OnG] at h ⊢
    rw [he t (by simp [gt])]
    exact h

mutual
theorem skip1_ok {S : Sig} {H : Heap} : ∀ (o : ROp) {g : Option (Nat × Bool)} {env : Env} {D : List Nat}, Off env g → skip1 D o = true → (∀ x, x ∈ D → look env x = some (.tup [])) → (∀ t, t ∈ gt g → t ∉ o.dsts) →
    ∃ env', runFl S (env, H) (flat1 g o) = some (env', H) ∧ (∀ x, x ∈ o.dsts → look env' x = some (.tup [])) ∧ (∀ x, x ∉ o.dsts → look env' x = look env x)
  | .q d k, g, env, D, ho, hs, hD, hg => by
    refine ⟨(d, .tup []) :: env, ?_, ?_, ?_⟩
    · simp only [flat1, runFl]
      rw [step_off ho]
      rfl
    · intro x hx
      simp only [ROp.dsts, List.mem_singleton] at hx
      subst hx
      simp [look]
    · intro x hx
      simp only [ROp.dsts, List.mem_singleton] at hx
      rw [look_cons, if_neg hx]
  | .e d k, g, env, D, ho, hs, hD, hg => by simp [skip1] at hs
  | .ch d c t a e b, g, env, D, ho, hs, hD, hg => by
    cases c with
    | c v => simp [skip1] at hs
    | t s =>
      simp only [skip1, Bool.and_eq_true, List.contains_eq_mem, decide_eq_true_eq, Bool.not_eq_true', decide_eq_false_iff_not, List.mem_append, not_or] at hs
      obtain ⟨⟨⟨hc, hct, hce⟩, ht⟩, he⟩ := hs
      have hoff : ∀ w, Off env (gof (.t s) w) := fun w => .inr (hD s hc)
      obtain ⟨env1, r1, a1, b1⟩ := skipL_ok t (H := H) (S := S) (hoff true) ht hD (fun x hx hk => by simp [gof, gt] at hx; subst hx; exact hct hk)
      obtain ⟨env2, r2, a2, b2⟩ := skipL_ok e (H := H) (S := S) (g := gof (.t s) false) (env := env1) (D := D) (.inr (by rw [b1 s hct]; exact hD s hc)) he (fun x hx => by
        by_cases k : x ∈ dstsL t
        · exact a1 x k
        · rw [b1 x k]; exact hD x hx) (fun x hx hk => by simp [gof, gt] at hx; subst hx; exact hce hk)
      have hgo : Off env2 g := Off_same ho (fun x hx => by
        have := hg x hx
        simp only [ROp.dsts, List.mem_append, not_or] at this
        rw [b2 x this.1.2, b1 x this.1.1])
      refine ⟨(d, .tup []) :: env2, ?_, ?_, ?_⟩
      · simp only [flat1]
        rw [runFl_app, r1]
        simp only [Option.bind_some]
        rw [runFl_app, r2]
        simp only [Option.bind_some, runFl]
        rw [step_off (f := ⟨g, some d, .pick (.t s) a b⟩) hgo]
        rfl
      · intro x hx
        rw [look_cons]
        split
        · rfl
        · rename_i hxd
          simp only [ROp.dsts, List.mem_append, List.mem_singleton, hxd, or_false] at hx
          by_cases k : x ∈ dstsL e
          · exact a2 x k
          · rw [b2 x k]; exact a1 x (hx.resolve_right k)
      · intro x hx
        simp only [ROp.dsts, List.mem_append, List.mem_singleton, not_or] at hx
        rw [look_cons, if_neg hx.2, b2 x hx.1.2, b1 x hx.1.1]
theorem skipL_ok {S : Sig} {H : Heap} : ∀ (os : List ROp) {g : Option (Nat × Bool)} {env : Env} {D : List Nat}, Off env g → skipL D os = true → (∀ x, x ∈ D → look env x = some (.tup [])) → (∀ t, t ∈ gt g → t ∉ dstsL os) →
    ∃ env', runFl S (env, H) (flatL g os) = some (env', H) ∧ (∀ x, x ∈ dstsL os → look env' x = some (.tup [])) ∧ (∀ x, x ∉ dstsL os → look env' x = look env x)
  | [], g, env, D, ho, hs, hD, hg => ⟨env, rfl, fun x hx => by simp [dstsL] at hx, fun x hx => rfl⟩
  | o :: r, g, env, D, ho, hs, hD, hg => by
    simp only [skipL, Bool.and_eq_true] at hs
    obtain ⟨env1, r1, a1, b1⟩ := skip1_ok o ho hs.1 hD (fun t ht hk => hg t ht (by simp [dstsL, hk]))
    obtain ⟨env2, r2, a2, b2⟩ := skipL_ok r (g := g) (env := env1) (D := o.dsts ++ D) (Off_same ho (fun t ht => b1 t (fun hk => hg t ht (by simp [dstsL, hk])))) hs.2 (fun x hx => by
      rcases List.mem_append.1 hx with hx | hx
      · exact a1 x hx
      · by_cases k : x ∈ o.dsts
        · exact a1 x k
        · rw [b1 x k]; exact hD x hx) (fun t ht hk => hg t ht (by simp [dstsL, hk]))
    refine ⟨env2, ?_, ?_, ?_⟩
    · simp only [flatL]
      rw [runFl_app, r1]
      exact r2
    · intro x hx
      simp only [dstsL, List.mem_append] at hx
      by_cases k : x ∈ dstsL r
      · exact a2 x k
      · rw [b2 x k]; exact a1 x (hx.resolve_right k)
    · intro x hx
      simp only [dstsL, List.mem_append, not_or] at hx
      rw [b2 x hx.2, b1 x hx.1]
end

def Agree (X : List Nat) (env envF : Env) : Prop := ∀ s, s ∉ X → look env s = look envF s
theorem Agree.on {X l : List Nat} {env envF : Env} (h : Agree X env envF) (hd : disjB l X = true) : On l env envF := fun s hs => h s (disjB_spec hd s hs)
theorem look_undefs : ∀ (l : List Nat) (env : Env) (s : Nat), look (undefs l ++ env) s = if s ∈ l then some .undef else look env s
  | [], env, s => by simp [undefs]
  | n :: l, env, s => by
    have ih := look_undefs l env s
    simp only [undefs, List.map_cons, List.cons_append, look_cons] at ih ⊢
    by_cases e : s = n
    · simp [e]
    · rw [if_neg e, ih]; simp [e]

mutual
theorem flat1_ok {S : Sig} {H : Heap} : ∀ (o : ROp) {g : Option (Nat × Bool)} {X : List Nat} {env envF env' : Env}, OnG envF g → (∀ t, t ∈ gt g → t ∉ o.dsts) → okR X o = true → Agree X env envF → runQ1 S H env o = some env' →
    ∃ envF', runFl S (envF, H) (flat1 g o) = some (envF', H) ∧ Agree (inner o ++ X) env' envF' ∧ (∀ x, x ∉ o.dsts → look envF' x = look envF x)
  | .q d k, g, X, env, envF, env', hg, hgd, hok, ha, hr => by
    simp only [okR, Bool.and_eq_true, Bool.not_eq_true', List.contains_eq_mem, decide_eq_false_iff_not] at hok
    simp only [runQ1] at hr
    cases hv : evQ S env H k with
    | none => rw [hv] at hr; cases hr
    | some v =>
      rw [hv] at hr
      obtain rfl := Option.some.inj hr
      refine ⟨(d, v) :: envF, ?_, ?_, ?_⟩
      · simp only [flat1, runFl]
        rw [step_on (f := ⟨g, some d, .q k⟩) hg]
        simp only [evF]
        rw [← evQ_on (ha.on hok.1), hv]
        rfl
      · intro s
        simp only [inner, List.nil_append, look_cons]
        intro hs
        split
        · rfl
        · exact ha s hs
      · intro x hx
        simp only [ROp.dsts, List.mem_singleton] at hx
        rw [look_cons, if_neg hx]
  | .e d k, g, X, env, envF, env', hg, hgd, hok, ha, hr => by simp [runQ1] at hr
  | .ch d c t a e b, g, X, env, envF, env', hg, hgd, hok, ha, hr => by
    cases c with
    | c v => simp [okR] at hok
    | t s =>
      simp only [okR, Bool.and_eq_true, Bool.not_eq_true', List.contains_eq_mem, decide_eq_false_iff_not, List.mem_append, not_or] at hok
      obtain ⟨⟨⟨⟨⟨⟨⟨⟨⟨⟨⟨hcX, hokt⟩, hoke⟩, haX⟩, hbX⟩, hd⟩, hcd⟩, hdd⟩, hst⟩, hse⟩, hae⟩, hbt⟩ := hok
      have hsX : s ∉ X := disjB_spec hcX s (by simp [Opd.uses])
      simp only [runQ1] at hr
      cases hp : asB ((Opd.t s).ev env) with
      | none => rw [hp] at hr; cases hr
      | some p =>
        rw [hp] at hr
        simp only [Option.bind_some] at hr
        have hls : look env s = some (.bool p) := by
          simp only [Opd.ev] at hp
          cases hl : look env s with
          | none => rw [hl] at hp; cases hp
          | some v =>
            rw [hl] at hp
            cases v <;> simp [asB] at hp
            rw [hp]
        have hlF : look envF s = some (.bool p) := by rw [← ha s hsX]; exact hls
        -- both branches, whichever runs
        have fin : ∀ (envZ : Env) (v : LV), runFl S (envF, H) (flatL (gof (.t s) true) t ++ flatL (gof (.t s) false) e) = some (envZ, H) → (∀ x, x ∉ dstsL t → x ∉ dstsL e → look envZ x = look envF x) → (if p then a.ev envZ else b.ev envZ) = v →
            env' = (d, v) :: (undefs (dstsL t ++ dstsL e) ++ env) → ∃ envF', runFl S (envF, H) (flat1 g (.ch d (.t s) t a e b)) = some (envF', H) ∧ Agree (inner (.ch d (.t s) t a e b) ++ X) env' envF' ∧ (∀ x, x ∉ (ROp.ch d (.t s) t a e b).dsts → look envF' x = look envF x) := by
          intro envZ v hrun hout hv he
          have hgZ : OnG envZ g := OnG_same hg (fun x hx => by
            have := hgd x hx
            simp only [ROp.dsts, List.mem_append, not_or] at this
            exact hout x this.1.1 this.1.2)
          have hsZ : look envZ s = some (.bool p) := by rw [hout s hcd.1 hcd.2]; exact hlF
          refine ⟨(d, v) :: envZ, ?_, ?_, ?_⟩
          · simp only [flat1]
            rw [← List.append_assoc, runFl_app, hrun]
            simp only [Option.bind_some, runFl]
            rw [step_on (f := ⟨g, some d, .pick (.t s) a b⟩) hgZ]
            simp only [evF, Opd.ev, hsZ, Option.getD_some, asB, Option.bind_some]
            simp only [Opd.ev] at hv
            rw [hv]
            rfl
          · intro x
            rw [he]
            simp only [inner, look_cons, look_undefs, List.mem_append, not_or]
            intro hx
            split
            · rfl
            · rw [if_neg (by simp [hx.1.1, hx.1.2]), hout x hx.1.1 hx.1.2]
              exact ha x hx.2
          · intro x hx
            simp only [ROp.dsts, List.mem_append, List.mem_singleton, not_or] at hx
            rw [look_cons, if_neg hx.2]
            exact hout x hx.1.1 hx.1.2
        cases p
        · simp only [Bool.false_eq_true, if_false] at hr
          cases hre : runQ S H env e with
          | none => rw [hre] at hr; cases hr
          | some env1 =>
            rw [hre] at hr
            obtain rfl := Option.some.inj hr
            obtain ⟨envT, r1, a1, b1⟩ := skipL_ok t (H := H) (S := S) (g := gof (.t s) true) (env := envF) (D := []) (.inl hlF) hst (by simp) (fun x hx hk => by simp [gof, gt] at hx; subst hx; exact hcd.1 hk)
            have haT : Agree (dstsL t ++ X) env envT := by
              intro x hx
              simp only [List.mem_append, not_or] at hx
              rw [b1 x hx.1]; exact ha x hx.2
            obtain ⟨envE, r2, a2, b2⟩ := flatL_ok e (S := S) (H := H) (g := gof (.t s) false) (X := dstsL t ++ X) (env := env) (envF := envT) (by show look envT s = some (.bool false); rw [b1 s hcd.1]; exact hlF) (fun x hx hk => by simp [gof, gt] at hx; subst hx; exact hcd.2 hk) hoke haT hre
            refine fin envE (b.ev env1) ?_ (fun x h1 h2 => by rw [b2 x h2, b1 x h1]) ?_ rfl
            · rw [runFl_app, r1]; exact r2
            · simp only [Bool.false_eq_true, if_false]
              refine (Opd.ev_on (fun x hx => ?_)).symm
              have h1 := disjB_spec hbX x hx
              have h2 := disjB_spec hbt x hx
              simp only [List.mem_append, not_or] at h1
              exact a2 x (by simp only [List.mem_append, not_or]; exact ⟨h1.1, h2, h1.2⟩)
        · simp only [if_true] at hr
          cases hrt : runQ S H env t with
          | none => rw [hrt] at hr; cases hr
          | some env1 =>
            rw [hrt] at hr
            obtain rfl := Option.some.inj hr
            obtain ⟨envT, r1, a1, b1⟩ := flatL_ok t (S := S) (H := H) (g := gof (.t s) true) (X := X) (env := env) (envF := envF) hlF (fun x hx hk => by simp [gof, gt] at hx; subst hx; exact hcd.1 hk) hokt ha hrt
            obtain ⟨envE, r2, a2, b2⟩ := skipL_ok e (H := H) (S := S) (g := gof (.t s) false) (env := envT) (D := []) (.inl (by rw [b1 s hcd.1]; exact hlF)) hse (by simp) (fun x hx hk => by simp [gof, gt] at hx; subst hx; exact hcd.2 hk)
            refine fin envE (a.ev env1) ?_ (fun x h1 h2 => by rw [b2 x h2, b1 x h1]) ?_ rfl
            · rw [runFl_app, r1]; exact r2
            · simp only [if_true]
              refine (Opd.ev_on (fun x hx => ?_)).symm
              rw [b2 x (disjB_spec hae x hx)]
              exact a1 x (disjB_spec haX x hx)
theorem flatL_ok {S : Sig} {H : Heap} : ∀ (os : List ROp) {g : Option (Nat × Bool)} {X : List Nat} {env envF env' : Env}, OnG envF g → (∀ t, t ∈ gt g → t ∉ dstsL os) → okL X os = true → Agree X env envF → runQ S H env os = some env' →
    ∃ envF', runFl S (envF, H) (flatL g os) = some (envF', H) ∧ Agree (innerL os ++ X) env' envF' ∧ (∀ x, x ∉ dstsL os → look envF' x = look envF x)
  | [], g, X, env, envF, env', hg, hgd, hok, ha, hr => by
    obtain rfl := Option.some.inj hr
    exact ⟨envF, rfl, by simpa [innerL] using ha, fun x _ => rfl⟩
  | o :: r, g, X, env, envF, env', hg, hgd, hok, ha, hr => by
    simp only [okL, Bool.and_eq_true] at hok
    simp only [runQ] at hr
    cases h1 : runQ1 S H env o with
    | none => rw [h1] at hr; cases hr
    | some env1 =>
      rw [h1] at hr
      obtain ⟨envF1, r1, a1, b1⟩ := flat1_ok o hg (fun t ht hk => hgd t ht (by simp [dstsL, hk])) hok.1 ha h1
      obtain ⟨envF2, r2, a2, b2⟩ := flatL_ok r (OnG_same hg (fun t ht => b1 t (fun hk => hgd t ht (by simp [dstsL, hk])))) (fun t ht hk => hgd t ht (by simp [dstsL, hk])) hok.2 a1 hr
      refine ⟨envF2, ?_, ?_, ?_⟩
      · simp only [flatL]
        rw [runFl_app, r1]
        exact r2
      · intro s
        have := a2 s
        simp only [innerL, List.mem_append, not_or] at this ⊢
        exact fun hs => this ⟨hs.1.2, hs.1.1, hs.2⟩
      · intro x hx
        simp only [dstsL, List.mem_append, not_or] at hx
        rw [b2 x hx.2, b1 x hx.1]
end

/-- The inside of a choice is forgotten behind it. -/
def Forgot (X : List Nat) (env : Env) : Prop := ∀ s, s ∈ X → ∀ v, look env s = some v → v = .undef
theorem forgot1 {S : Sig} {H : Heap} {o : ROp} {X : List Nat} {env env' : Env} (hok : okR X o = true) (hf : Forgot X env) (hr : runQ1 S H env o = some env') : Forgot (inner o ++ X) env' := by
  cases o with
  | q d k =>
    simp only [okR, Bool.and_eq_true, Bool.not_eq_true', List.contains_eq_mem, decide_eq_false_iff_not] at hok
    simp only [runQ1] at hr
    cases hv : evQ S env H k with
    | none => rw [hv] at hr; cases hr
    | some v =>
      rw [hv] at hr
      obtain rfl := Option.some.inj hr
      intro s hs u hu
      rw [look_cons] at hu
      split at hu
      · rename_i e; subst e; exact absurd hs hok.2
      · exact hf s hs u hu
  | e d k => simp [runQ1] at hr
  | ch d c t a e b =>
    have hd : d ∉ dstsL t ++ dstsL e ++ X := by
      cases c <;> simp only [okR, Bool.and_eq_true, Bool.not_eq_true', List.contains_eq_mem, decide_eq_false_iff_not] at hok
      · exact hok.1.1.1.1.1.1.2
      · exact hok.1.1.1.1.1.1.2
    simp only [runQ1] at hr
    cases hp : asB (c.ev env) with
    | none => rw [hp] at hr; cases hr
    | some p =>
      rw [hp] at hr
      simp only [Option.bind_some] at hr
      obtain ⟨v, _, hv⟩ := Option.bind_eq_some_iff.1 hr
      obtain rfl := Option.some.inj hv
      intro s hs u hu
      rw [look_cons, look_undefs] at hu
      split at hu
      · rename_i e; subst e; exact absurd hs hd
      · split at hu
        · exact (Option.some.inj hu).symm
        · rename_i h1
          exact hf s ((List.mem_append.1 hs).resolve_left h1) u hu

/-- A region that keeps its order. -/
theorem flatR_ok {S : Sig} : ∀ (os : List ROp) {X : List Nat} {s s' : St} {envF : Env}, okL X os = true → Agree X s.env envF → Forgot X s.env → runR S s os = some s' →
    ∃ envF' X', runFl S (envF, s.heap) (flatL none os) = some (envF', s'.heap) ∧ Agree X' s'.env envF' ∧ Forgot X' s'.env
  | [], X, s, s', envF, hok, ha, hf, hr => by
    obtain rfl := Option.some.inj hr
    exact ⟨envF, X, rfl, ha, hf⟩
  | o :: r, X, s, s', envF, hok, ha, hf, hr => by
    simp only [okL, Bool.and_eq_true] at hok
    have quiet : ∀ env1, runQ1 S s.heap s.env o = some env1 → runR S ⟨env1, s.heap⟩ r = some s' → ∃ envF' X', runFl S (envF, s.heap) (flatL none (o :: r)) = some (envF', s'.heap) ∧ Agree X' s'.env envF' ∧ Forgot X' s'.env := by
      intro env1 h1 h2
      obtain ⟨envF1, r1, a1, _⟩ := flat1_ok o (g := none) trivial (by simp [gt]) hok.1 ha h1
      obtain ⟨envF2, X', r2, a2, f2⟩ := flatR_ok r (s := ⟨env1, s.heap⟩) hok.2 a1 (forgot1 hok.1 hf h1) h2
      refine ⟨envF2, X', ?_, a2, f2⟩
      simp only [flatL]
      rw [runFl_app, r1]
      exact r2
    cases o with
    | q d k =>
      simp only [runR] at hr
      obtain ⟨env1, h1, h2⟩ := Option.bind_eq_some_iff.1 hr
      exact quiet env1 h1 h2
    | ch d c t a e b =>
      simp only [runR] at hr
      obtain ⟨env1, h1, h2⟩ := Option.bind_eq_some_iff.1 hr
      exact quiet env1 h1 h2
    | e d k =>
      simp only [runR] at hr
      obtain ⟨p, h1, h2⟩ := Option.bind_eq_some_iff.1 hr
      simp only [okR, Bool.and_eq_true] at hok
      have ha1 : Agree X (put d p.1 s.env) (put d p.1 envF) := by
        intro x hx
        cases d with
        | none => exact ha x hx
        | some d =>
          simp only [put, look_cons]
          split
          · rfl
          · exact ha x hx
      have hf1 : Forgot X (put d p.1 s.env) := by
        cases d with
        | none => exact hf
        | some d =>
          simp only [Bool.not_eq_true', List.contains_eq_mem, decide_eq_false_iff_not] at hok
          intro x hx u hu
          simp only [put, look_cons] at hu
          split at hu
          · rename_i e; subst e; exact absurd hx hok.1.2
          · exact hf x hx u hu
      obtain ⟨envF2, X', r2, a2, f2⟩ := flatR_ok r (X := inner (.e d k) ++ X) (s := ⟨put d p.1 s.env, p.2⟩) (envF := put d p.1 envF) hok.2 (by simpa [inner] using ha1) (by simpa [inner] using hf1) h2
      refine ⟨envF2, X', ?_, a2, f2⟩
      simp only [flatL, flat1, List.cons_append, List.nil_append, runFl]
      rw [step_on (f := ⟨none, d, .e k⟩) trivial]
      simp only [evF]
      rw [← evE_on (ha.on hok.1.1), h1]
      exact r2
end Go.Lev
