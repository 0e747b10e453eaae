/- Regions that draw their order. -/
import Derived.Test.YtahjhlnhkoifhaaGreatZK
set_option linter.unusedVariables false
set_option linter.unusedSimpArgs false
namespace Go.Lev

/-! ### Who comes before whom, in all orders -/
def befG (acc : Array Nat) (o : Oper) : Nat := o.after.foldl (fun s e => if Region.binds .any e then s ||| 2 ^ e.on ||| acc.getD e.on 0 else s) 0
theorem befG_spec {acc : Array Nat} {o : Oper} {j : Nat} (h : (befG acc o).testBit j = true) : ∃ e, e ∈ o.after ∧ Region.binds .any e = true ∧ (e.on = j ∨ (acc.getD e.on 0).testBit j = true) := by
  have key : ∀ (l : List Edge) (s : Nat), (l.foldl (fun s e => if Region.binds .any e then s ||| 2 ^ e.on ||| acc.getD e.on 0 else s) s).testBit j = true → s.testBit j = true ∨ ∃ e, e ∈ l ∧ Region.binds .any e = true ∧ (e.on = j ∨ (acc.getD e.on 0).testBit j = true) := by
    intro l
    induction l with
    | nil => intro s h; exact .inl h
    | cons e l ih =>
      intro s h
      rw [List.foldl_cons] at h
      rcases ih _ h with h1 | ⟨e', h1, h2, h3⟩
      · split at h1
        · rename_i hb
          rw [Nat.testBit_or, Nat.testBit_or, Nat.testBit_two_pow] at h1
          simp only [Bool.or_eq_true, decide_eq_true_eq] at h1
          rcases h1 with (h1 | h1) | h1
          · exact .inl h1
          · exact .inr ⟨e, by simp, hb, .inl h1⟩
          · exact .inr ⟨e, by simp, hb, .inr h1⟩
        · exact .inl h1
      · exact .inr ⟨e', by simp [h1], h2, h3⟩
  unfold befG at h
  rw [← Array.foldl_toList] at h
  rcases key _ _ h with h1 | ⟨e, h1, h2, h3⟩
  · simp at h1
  · exact ⟨e, by simpa using h1, h2, h3⟩

def BefInv (ops : List Oper) (acc : Array Nat) : Prop := ∀ i o j, i < acc.size → ops[i]? = some o → (acc.getD i 0).testBit j = true → ∃ e, e ∈ o.after ∧ Region.binds .any e = true ∧ (e.on = j ∨ (e.on < i ∧ (acc.getD e.on 0).testBit j = true))
theorem bef_fold (ops : List Oper) : ∀ (l : List Oper) (acc : Array Nat), ops.drop acc.size = l → BefInv ops acc → BefInv ops (l.foldl (fun acc o => acc.push (befG acc o)) acc)
  | [], acc, _, h => h
  | o :: l, acc, hd, h => by
    rw [List.foldl_cons]
    have hlt : acc.size < ops.length := by
      by_cases k : acc.size < ops.length
      · exact k
      · rw [List.drop_of_length_le (by omega)] at hd; cases hd
    have ho : ops[acc.size]? = some o := by
      have : (ops.drop acc.size)[0]? = some o := by rw [hd]; rfl
      rwa [List.getElem?_drop, Nat.add_zero] at this
    have hgd : ∀ k, k < acc.size → (acc.push (befG acc o)).getD k 0 = acc.getD k 0 := by
      intro k hk
      simp only [Array.getD_eq_getD_getElem?, Array.getElem?_push, Nat.ne_of_lt hk, if_false]
    refine bef_fold ops l _ ?_ ?_
    · rw [Array.size_push, ← List.drop_drop, hd]; rfl
    · intro i o' j hi ho' hb
      rw [Array.size_push] at hi
      by_cases hlt' : i < acc.size
      · rw [hgd i hlt'] at hb
        obtain ⟨e, h1, h2, h3⟩ := h i o' j hlt' ho' hb
        exact ⟨e, h1, h2, h3.imp id (fun k => ⟨k.1, by rw [hgd _ (by omega)]; exact k.2⟩)⟩
      · have hie : i = acc.size := by omega
        subst hie
        rw [ho] at ho'
        obtain rfl := Option.some.inj ho'
        have : (acc.push (befG acc o)).getD acc.size 0 = befG acc o := by
          simp only [Array.getD_eq_getD_getElem?, Array.getElem?_push, if_true]; rfl
        rw [this] at hb
        obtain ⟨e, h1, h2, h3⟩ := befG_spec hb
        refine ⟨e, h1, h2, h3.imp id (fun k => ?_)⟩
        have hlt2 : e.on < acc.size := by
          by_cases q : e.on < acc.size
          · exact q
          · rw [Array.getD_eq_getD_getElem?, Array.getElem?_eq_none (by omega)] at k
            simp at k
        exact ⟨hlt2, by rw [hgd _ hlt2]; exact k⟩
def bef (ops : Array Oper) (j i : Nat) : Bool := ((Region.before ops).getD i 0).testBit j
theorem bef_spec {ops : Array Oper} {j i : Nat} {o : Oper} (ho : ops[i]? = some o) (h : bef ops j i = true) : ∃ e, e ∈ o.after ∧ Region.binds .any e = true ∧ (e.on = j ∨ (e.on < i ∧ bef ops j e.on = true)) := by
  have hb : Region.before ops = ops.toList.foldl (fun acc o => acc.push (befG acc o)) #[] := by
    unfold Region.before
    rw [← Array.foldl_toList]
    rfl
  have hinv := bef_fold ops.toList ops.toList #[] (by simp) (by intro i o j hi; simp at hi)
  rw [← hb] at hinv
  have hlt : i < (Region.before ops).size := by
    by_cases q : i < (Region.before ops).size
    · exact q
    · unfold bef at h
      rw [Array.getD_eq_getD_getElem?, Array.getElem?_eq_none (by omega)] at h
      simp at h
  exact hinv i o j hlt (by simpa using ho) h

/-- Who is listed has his forerunners listed. -/
def Closed (ops : Array Oper) (L : Nat → Prop) : Prop := ∀ i o, L i → ops[i]? = some o → ∀ e, e ∈ o.after → Region.binds .any e = true → L e.on
theorem closed_bef {ops : Array Oper} {L : Nat → Prop} (hL : Closed ops L) (hin : ∀ i, L i → i < ops.size) : ∀ (i j : Nat) (o : Oper), ops[i]? = some o → (∀ e, e ∈ o.after → Region.binds .any e = true → L e.on) → bef ops j i = true → L j := by
  intro i
  induction i using Nat.strongRecOn with
  | _ i ih =>
    intro j o ho hpre hb
    obtain ⟨e, h1, h2, h3⟩ := bef_spec ho hb
    rcases h3 with rfl | ⟨h4, h5⟩
    · exact hpre e h1 h2
    · have hLe := hpre e h1 h2
      have hlt := hin _ hLe
      exact ih e.on h4 j ops[e.on] (by simp [hlt]) (hL e.on _ hLe (by simp [hlt])) h5

/-! ### The flat form -/
def flatD : List (Bool × ROp) → List (Bool × FOp)
  | [] => []
  | (b, o) :: r => (flat1 none o).map (fun f => (b, f)) ++ flatD r
def FK.isE : FK → Bool
  | .e _ => true
  | _ => false
def hq (hide : List Nat) (H0 : Heap) (b : Bool) : Heap := if b then H0 else killed hide ++ H0
/-- The run of the flat form, with what each operation yields and writes. -/
def runT (S : Sig) (hide : List Nat) (H0 : Heap) : Env → Heap → List (Bool × FOp) → List (LV × Heap) → Prop
  | _, _, [], [] => True
  | env, H, (b, f) :: r, (v, pre) :: ts => stepF S env (hq hide H0 b) H f = some (v, pre ++ H) ∧ (∀ n, look pre n ≠ none → look H0 n = none ∨ n ∈ hide) ∧ (f.k.isE = false → pre = []) ∧ runT S hide H0 (put f.d v env) (pre ++ H) r ts
  | _, _, _, _ => False
def envT : Env → List (Bool × FOp) → List (LV × Heap) → Env
  | env, (_, f) :: r, (v, _) :: ts => envT (put f.d v env) r ts
  | env, _, _ => env
def heapT : Heap → List (LV × Heap) → Heap
  | H, (_, pre) :: ts => heapT (pre ++ H) ts
  | H, [] => H

theorem runT_app {S : Sig} {hide : List Nat} {H0 : Heap} : ∀ {xs : List (Bool × FOp)} {ts : List (LV × Heap)} {env : Env} {H : Heap} {ys : List (Bool × FOp)} {us : List (LV × Heap)}, runT S hide H0 env H xs ts → runT S hide H0 (envT env xs ts) (heapT H ts) ys us → runT S hide H0 env H (xs ++ ys) (ts ++ us)
  | [], [], _, _, _, _, _, h => h
  | [], _ :: _, _, _, _, _, h, _ => h.elim
  | _ :: _, [], _, _, _, _, h, _ => by obtain ⟨_, _⟩ := ‹Bool × FOp›; exact h.elim
  | (b, f) :: xs, (v, pre) :: ts, env, H, ys, us, h, k => ⟨h.1, h.2.1, h.2.2.1, runT_app h.2.2.2 k⟩
theorem envT_app : ∀ {xs : List (Bool × FOp)} {ts : List (LV × Heap)} {env : Env} {ys : List (Bool × FOp)} {us : List (LV × Heap)}, xs.length = ts.length → envT env (xs ++ ys) (ts ++ us) = envT (envT env xs ts) ys us
  | [], [], _, _, _, _ => rfl
  | [], _ :: _, _, _, _, h => by cases h
  | _ :: _, [], _, _, _, h => by cases h
  | (b, f) :: xs, (v, pre) :: ts, env, ys, us, h => by
    simp only [List.cons_append, envT]
    exact envT_app (by simpa using h)
theorem heapT_app : ∀ {ts : List (LV × Heap)} {H : Heap} {us : List (LV × Heap)}, heapT H (ts ++ us) = heapT (heapT H ts) us
  | [], _, _ => rfl
  | (v, pre) :: ts, H, us => by simp only [List.cons_append, heapT]; exact heapT_app
theorem runT_length {S : Sig} {hide : List Nat} {H0 : Heap} : ∀ {xs : List (Bool × FOp)} {ts : List (LV × Heap)} {env : Env} {H : Heap}, runT S hide H0 env H xs ts → xs.length = ts.length
  | [], [], _, _, _ => rfl
  | [], _ :: _, _, _, h => h.elim
  | _ :: _, [], _, _, h => by obtain ⟨_, _⟩ := ‹Bool × FOp›; exact h.elim
  | (b, f) :: xs, (v, pre) :: ts, env, H, h => by simp [runT_length h.2.2.2]

/-- What only computes does so beside any heap. -/
theorem stepF_quiet {S : Sig} {env : Env} {Hq H H' : Heap} {f : FOp} {p : LV × Heap} (hk : f.k.isE = false) (h : stepF S env Hq H f = some p) : p.2 = H ∧ stepF S env Hq H' f = some (p.1, H') := by
  obtain ⟨g, d, k⟩ := f
  have key : ∀ p : LV × Heap, evF S env Hq H (d.getD 0) k = some p → p.2 = H ∧ evF S env Hq H' (d.getD 0) k = some (p.1, H') := by
    intro p h
    cases k with
    | q k =>
      simp only [evF] at h ⊢
      obtain ⟨v, hv, h⟩ := Option.bind_eq_some_iff.1 h
      obtain rfl := Option.some.inj h
      rw [hv]
      exact ⟨rfl, rfl⟩
    | pick x y z =>
      simp only [evF] at h ⊢
      obtain ⟨v, hv, h⟩ := Option.bind_eq_some_iff.1 h
      obtain rfl := Option.some.inj h
      rw [hv]
      exact ⟨rfl, rfl⟩
    | e k => cases hk
  unfold stepF at h ⊢
  cases g with
  | none => exact key p h
  | some q =>
    obtain ⟨t, want⟩ := q
    simp only at h ⊢
    split at h
    · split at h
      · rename_i h1 h2
        rw [if_pos h2]
        exact key p h
      · rename_i h1 h2
        rw [if_neg h2]
        obtain rfl := Option.some.inj h
        exact ⟨rfl, rfl⟩
    · obtain rfl := Option.some.inj h
      exact ⟨rfl, rfl⟩
    · cases h

/-- A run of what only computes, as a trace. -/
theorem trace_quiet {S : Sig} {hide : List Nat} {H0 : Heap} {b : Bool} {H : Heap} : ∀ {fs : List FOp} {env env' : Env} {Hx : Heap}, (∀ f, f ∈ fs → f.k.isE = false) → runFl S (env, hq hide H0 b) fs = some (env', Hx) →
    ∃ ts, runT S hide H0 env H (fs.map fun f => (b, f)) ts ∧ envT env (fs.map fun f => (b, f)) ts = env' ∧ heapT H ts = H
  | [], env, env', Hx, _, h => by
    obtain ⟨rfl, rfl⟩ := Prod.mk.inj (Option.some.inj h)
    exact ⟨[], trivial, rfl, rfl⟩
  | f :: fs, env, env', Hx, hk, h => by
    simp only [runFl] at h
    obtain ⟨p, hp, h⟩ := Option.bind_eq_some_iff.1 h
    obtain ⟨k1, k2⟩ := stepF_quiet (H' := H) (hk f (by simp)) hp
    rw [k1] at h
    obtain ⟨ts, t1, t2, t3⟩ := trace_quiet (H := H) (fun f hf => hk f (by simp [hf])) h
    exact ⟨(p.1, []) :: ts, ⟨k2, fun n hn => by simp [look] at hn, fun _ => rfl, t1⟩, t2, t3⟩

mutual
theorem skip1_noE : ∀ (o : ROp) {D : List Nat} {g : Option (Nat × Bool)}, skip1 D o = true → ∀ f, f ∈ flat1 g o → f.k.isE = false
  | .q d k, D, g, _, f, hf => by simp only [flat1, List.mem_singleton] at hf; subst hf; rfl
  | .e d k, D, g, h, _, _ => by simp [skip1] at h
  | .ch d c t a e b, D, g, h, f, hf => by
    simp only [skip1, Bool.and_eq_true] at h
    simp only [flat1, List.mem_append, List.mem_singleton] at hf
    rcases hf with hf | hf | rfl
    · exact skipL_noE t h.1.2 f hf
    · exact skipL_noE e h.2 f hf
    · rfl
theorem skipL_noE : ∀ (os : List ROp) {D : List Nat} {g : Option (Nat × Bool)}, skipL D os = true → ∀ f, f ∈ flatL g os → f.k.isE = false
  | [], _, _, _, _, hf => by cases hf
  | o :: r, D, g, h, f, hf => by
    simp only [skipL, Bool.and_eq_true] at h
    simp only [flatL, List.mem_append] at hf
    rcases hf with hf | hf
    · exact skip1_noE o h.1 f hf
    · exact skipL_noE r h.2 f hf
end
theorem flat1_noE {o : ROp} {X : List Nat} {g : Option (Nat × Bool)} (h : okR X o = true) (hne : ∀ d k, o ≠ .e d k) : ∀ f, f ∈ flat1 g o → f.k.isE = false := by
  cases o with
  | q d k => intro f hf; simp only [flat1, List.mem_singleton] at hf; subst hf; rfl
  | e d k => exact absurd rfl (hne d k)
  | ch d c t a e b =>
    intro f hf
    simp only [okR, Bool.and_eq_true] at h
    simp only [flat1, List.mem_append, List.mem_singleton] at hf
    rcases hf with hf | hf | rfl
    · exact skipL_noE t h.1.1.1.2 f hf
    · exact skipL_noE e h.1.1.2 f hf
    · rfl

theorem evE_pre {S : Sig} {env : Env} {H : Heap} {d : Nat} {k : EK} {r : LV × Heap} (h : evE S env H d k = some r) : ∃ pre, r.2 = pre ++ H := by
  cases k <;> simp only [evE] at h
  case alloc z =>
    split at h
    · obtain rfl := Option.some.inj h; exact ⟨[_], rfl⟩
    · cases h
  case box n x =>
    obtain ⟨cs, _, h⟩ := Option.bind_eq_some_iff.1 h
    split at h
    · obtain rfl := Option.some.inj h; exact ⟨[_], rfl⟩
    · cases h
  case store n pk x v =>
    split at h
    · obtain ⟨cs, _, h⟩ := Option.bind_eq_some_iff.1 h
      split at h
      · split at h
        · obtain ⟨p, _, h⟩ := Option.bind_eq_some_iff.1 h
          obtain ⟨y, _, h⟩ := Option.bind_eq_some_iff.1 h
          obtain ⟨r1, _, h⟩ := Option.bind_eq_some_iff.1 h
          split at h
          · obtain rfl := Option.some.inj h; exact ⟨_ :: p.2, rfl⟩
          · cases h
        · obtain ⟨y, _, h⟩ := Option.bind_eq_some_iff.1 h
          obtain ⟨r1, _, h⟩ := Option.bind_eq_some_iff.1 h
          split at h
          · obtain rfl := Option.some.inj h; exact ⟨[_], rfl⟩
          · cases h
      · cases h
    · cases h
  case eload n ag x =>
    split at h
    · obtain ⟨y, _, h⟩ := Option.bind_eq_some_iff.1 h
      obtain ⟨r1, _, h⟩ := Option.bind_eq_some_iff.1 h
      split at h
      · split at h
        · obtain ⟨v, _, h⟩ := Option.bind_eq_some_iff.1 h
          obtain rfl := Option.some.inj h
          exact ⟨_ :: _, rfl⟩
        · cases h
      · cases h
    · cases h
  case bslice esz z ps =>
    obtain ⟨rr, _, h⟩ := Option.bind_eq_some_iff.1 h
    split at h
    · obtain ⟨p, _, h⟩ := Option.bind_eq_some_iff.1 h
      obtain rfl := Option.some.inj h
      exact ⟨_ :: p.2, rfl⟩
    · cases h
  case mks z bytes l c =>
    obtain ⟨n, _, h⟩ := Option.bind_eq_some_iff.1 h
    obtain ⟨m, _, h⟩ := Option.bind_eq_some_iff.1 h
    split at h
    · obtain rfl := Option.some.inj h; exact ⟨[_], rfl⟩
    · cases h
  case app esz bytes mv x y =>
    obtain ⟨src, _, h⟩ := Option.bind_eq_some_iff.1 h
    split at h
    · split at h
      · split at h
        · obtain rfl := Option.some.inj h; exact ⟨_ :: src.2, rfl⟩
        · cases h
      · obtain ⟨y, _, h⟩ := Option.bind_eq_some_iff.1 h
        split at h
        · obtain rfl := Option.some.inj h; exact ⟨_ :: _ :: src.2, rfl⟩
        · cases h
      · cases h
    · cases h
  case call f args lent =>
    obtain ⟨p, _, h⟩ := Option.bind_eq_some_iff.1 h
    obtain ⟨q, _, h⟩ := Option.bind_eq_some_iff.1 h
    obtain ⟨hb, _, h⟩ := Option.bind_eq_some_iff.1 h
    split at h
    · obtain rfl := Option.some.inj h
      exact ⟨_, (List.append_assoc _ _ _).symm⟩
    · cases h

theorem look_all {P : Nat → Bool} : ∀ {h : Heap}, (h.all fun q => P q.1) = true → ∀ n, look h n ≠ none → P n = true
  | [], _, n, hn => by simp [look] at hn
  | (k, v) :: h, ha, n, hn => by
    simp only [List.all_cons, Bool.and_eq_true] at ha
    rw [look_cons] at hn
    split at hn
    · rename_i e; subst e; exact ha.1
    · exact look_all ha.2 n hn

/-- A drawn region's part, flat. -/
theorem flatD_ok {S : Sig} {hide : List Nat} {H0 : Heap} : ∀ (rs : List (Bool × ROp)) {X : List Nat} {s s' : St} {envF : Env} {rb : List ROp}, okL X (rs.map (·.2) ++ rb) = true → Agree X s.env envF → Forgot X s.env → runD S hide H0 s rs = some s' →
    ∃ ts X', runT S hide H0 envF s.heap (flatD rs) ts ∧ Agree X' s'.env (envT envF (flatD rs) ts) ∧ Forgot X' s'.env ∧ heapT s.heap ts = s'.heap ∧ okL X' rb = true
  | [], X, s, s', envF, rb, hok, ha, hf, hr => by
    obtain rfl := Option.some.inj hr
    exact ⟨[], X, trivial, ha, hf, rfl, hok⟩
  | (b, o) :: r, X, s, s', envF, rb, hok, ha, hf, hr => by
    simp only [List.map_cons, List.cons_append, okL, Bool.and_eq_true] at hok
    have quiet : (∀ d k, o ≠ .e d k) → ∀ env1, runQ1 S (hq hide H0 b) s.env o = some env1 → runD S hide H0 ⟨env1, s.heap⟩ r = some s' →
        ∃ ts X', runT S hide H0 envF s.heap (flatD ((b, o) :: r)) ts ∧ Agree X' s'.env (envT envF (flatD ((b, o) :: r)) ts) ∧ Forgot X' s'.env ∧ heapT s.heap ts = s'.heap ∧ okL X' rb = true := by
      intro hne env1 h1 h2
      obtain ⟨envF1, r1, a1, _⟩ := flat1_ok o (g := none) trivial (by simp [gt]) hok.1 ha h1
      obtain ⟨ts1, t1, t2, t3⟩ := trace_quiet (hide := hide) (H0 := H0) (b := b) (H := s.heap) (flat1_noE hok.1 hne) r1
      obtain ⟨ts2, X', q1, q2, q3, q4, q5⟩ := flatD_ok r (s := ⟨env1, s.heap⟩) hok.2 a1 (forgot1 hok.1 hf h1) h2
      have hl := runT_length t1
      refine ⟨ts1 ++ ts2, X', ?_, ?_, q3, ?_, q5⟩
      · simp only [flatD]
        refine runT_app t1 ?_
        rw [t2, t3]
        exact q1
      · simp only [flatD]
        rw [envT_app hl, t2]
        exact q2
      · rw [heapT_app, t3]
        exact q4
    cases o with
    | q d k =>
      simp only [runD] at hr
      obtain ⟨env1, h1, h2⟩ := Option.bind_eq_some_iff.1 hr
      exact quiet (by intros; simp) env1 h1 h2
    | ch d c t a e b' =>
      simp only [runD] at hr
      obtain ⟨env1, h1, h2⟩ := Option.bind_eq_some_iff.1 hr
      exact quiet (by intros; simp) env1 h1 h2
    | e d k =>
      simp only [runD] at hr
      obtain ⟨p, h1, h2⟩ := Option.bind_eq_some_iff.1 hr
      split at h2
      · rename_i hnew
        obtain ⟨pre, hpre⟩ := evE_pre h1
        simp only [okR, Bool.and_eq_true] at hok
        have ha1 : Agree X (put d p.1 s.env) (put d p.1 envF) := by
          intro x hx
          cases d with
          | none => exact ha x hx
          | some d =>
            simp only [put, look_cons]
            split
            · rfl
            · exact ha x hx
        have hf1 : Forgot X (put d p.1 s.env) := by
          cases d with
          | none => exact hf
          | some d =>
            simp only [Bool.not_eq_true', List.contains_eq_mem, decide_eq_false_iff_not] at hok
            intro x hx u hu
            simp only [put, look_cons] at hu
            split at hu
            · rename_i e; subst e; exact absurd hx hok.1.2
            · exact hf x hx u hu
        obtain ⟨ts, X', q1, q2, q3, q4, q5⟩ := flatD_ok r (X := inner (.e d k) ++ X) (s := ⟨put d p.1 s.env, p.2⟩) (envF := put d p.1 envF) hok.2 (by simpa [inner] using ha1) (by simpa [inner] using hf1) h2
        refine ⟨(p.1, pre) :: ts, X', ?_, q2, q3, ?_, q5⟩
        · simp only [flatD, flat1, List.map_cons, List.map_nil, List.cons_append, List.nil_append, runT]
          refine ⟨?_, ?_, fun h => by simp [FK.isE] at h, ?_⟩
          · rw [step_on (f := ⟨none, d, .e k⟩) trivial]
            simp only [evF]
            rw [← evE_on (ha.on hok.1.1), h1, ← hpre]
          · intro n hn
            unfold newOk at hnew
            rw [hpre, List.length_append, Nat.add_sub_cancel, List.take_left] at hnew
            have := look_all (P := fun n => (look H0 n).isNone || hide.contains n) hnew n hn
            simpa using this
          · rw [← hpre]; exact q1
        · simp only [heapT]
          rw [← hpre]
          exact q4
      · cases h2
end Go.Lev
