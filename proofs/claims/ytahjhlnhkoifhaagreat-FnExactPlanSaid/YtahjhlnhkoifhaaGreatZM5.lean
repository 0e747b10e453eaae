/- Regions that draw their order: every order. -/
import Derived.Test.YtahjhlnhkoifhaaGreatZM4
set_option linter.unusedVariables false
set_option linter.unusedSimpArgs false
namespace Go.Lev

/-- Each operation's forerunners stand before it in the text. -/
def downB (ops : Array Oper) : Bool := (List.range ops.size).all fun i => match ops[i]? with
  | some o => o.after.all fun e => !Region.binds .any e || decide (e.on < i)
  | none => true
theorem downB_spec {ops : Array Oper} (h : downB ops = true) {i : Nat} {o : Oper} (ho : ops[i]? = some o) {e : Edge} (he : e ∈ o.after) (hb : Region.binds .any e = true) : e.on < i := by
  unfold downB at h
  have hi : i < ops.size := by
    have := (Array.getElem?_eq_some_iff.1 ho).1
    exact this
  have := List.all_eq_true.1 h i (by simpa using hi)
  simp only [ho] at this
  have := Array.all_eq_true'.1 this e he
  simp only [Bool.or_eq_true, Bool.not_eq_true', decide_eq_true_eq] at this
  rcases this with k | k
  · rw [hb] at k; cases k
  · exact k
/-- From a place on, each operation comes behind all that stand before it. -/
def tailB (ops : Array Oper) (m : Nat) : Bool := (List.range ops.size).all fun i => decide (i < m) || (List.range i).all fun j => bef ops j i
theorem tailB_spec {ops : Array Oper} {m : Nat} (h : tailB ops m = true) {i j : Nat} (hi : i < ops.size) (hm : m ≤ i) (hj : j < i) : bef ops j i = true := by
  unfold tailB at h
  have := List.all_eq_true.1 h i (by simpa using hi)
  simp only [Bool.or_eq_true, decide_eq_true_eq] at this
  have := this.resolve_left (by omega)
  exact List.all_eq_true.1 this j (by simpa using hj)

def dn (L : Array Bool) (k : Nat) : Bool := L.getD k false
theorem dn_ins {L : Array Bool} {i : Nat} (h : i < L.size) : dn (L.setIfInBounds i true) = ins (dn L) i := by
  funext k
  unfold dn ins
  simp only [Array.getD_eq_getD_getElem?]
  by_cases e : k = i
  · subst e; simp [h]
  · rw [Array.getElem?_setIfInBounds_ne (fun k' => e k'.symm)]; simp [e]
theorem ready_spec {ops : Array Oper} {L : Array Bool} (hs : L.size = ops.size) {i : Nat} : i ∈ Region.ready .any ops L ↔ i < ops.size ∧ dn L i = false ∧ ∃ o, ops[i]? = some o ∧ ∀ e, e ∈ o.after → Region.binds .any e = true → dn L e.on = true := by
  unfold Region.ready
  simp only [List.mem_filter, List.mem_range, Bool.and_eq_true, Bool.not_eq_true']
  constructor
  · rintro ⟨h1, h2, h3⟩
    refine ⟨h1, ?_, ops[i], by simp [h1], ?_⟩
    · have : i < L.size := by omega
      unfold dn
      simp only [Array.getD_eq_getD_getElem?] at h2 ⊢
      simpa [this] using h2
    · intro e he hb
      simp only [h1, Array.getElem?_eq_getElem, Option.map_some, Option.getD_some] at h3
      have := Array.all_eq_true'.1 h3 e he
      simp only [Bool.or_eq_true, Bool.not_eq_true'] at this
      rcases this with k | k
      · rw [hb] at k; cases k
      · exact k
  · rintro ⟨h1, h2, o, ho, h3⟩
    refine ⟨h1, ?_, ?_⟩
    · have : i < L.size := by omega
      unfold dn at h2
      simp only [Array.getD_eq_getD_getElem?] at h2 ⊢
      simpa [this] using h2
    · rw [ho]
      simp only [Option.map_some, Option.getD_some]
      refine Array.all_eq_true'.2 (fun e he => ?_)
      cases hb : Region.binds .any e with
      | false => rfl
      | true => simpa [dn] using h3 e he hb
/-- If nobody is ready, all are done. -/
theorem ready_nil {ops : Array Oper} {L : Array Bool} (hs : L.size = ops.size) (hd : downB ops = true) (h : Region.ready .any ops L = []) : ∀ i, i < ops.size → dn L i = true := by
  intro i
  induction i using Nat.strongRecOn with
  | _ i ih =>
    intro hi
    cases e : dn L i with
    | true => rfl
    | false =>
      exfalso
      have ho : ops[i]? = some ops[i] := by simp [hi]
      have : i ∈ Region.ready .any ops L := (ready_spec hs).2 ⟨hi, e, _, ho, fun e he hb => by
        have := downB_spec hd ho he hb
        exact ih _ this (by omega)⟩
      rw [h] at this
      cases this

section
variable {P : Program} {c : Ctx} {S : Sig} {ops : Array Oper} {hide : List Nat} {H0 : Heap} {env0 : Env} {fs : FL} {ts : TL}

/-- The state of what is done. -/
def Now (c : Ctx) (S : Sig) (H0 : Heap) (env0 : Env) (fs : FL) (ts : TL) (fb : List FOp) (D : Nat → Bool) (a : Act) (w : World) : Prop :=
  ((∀ k, fs.length ≤ k → D k = false) ∧ SR c (envS D 0 env0 fs ts) (heapS D 0 H0 ts) a w) ∨
  ∃ p r, p ≤ fb.length ∧ D = ltB (fs.length + p) ∧ runFl S (envT env0 fs ts, heapT H0 ts) (fb.take p) = some r ∧ SR c r.1 r.2 a w

theorem runFl_prefix {S : Sig} {xs ys : List FOp} {s r : Env × Heap} (h : runFl S s (xs ++ ys) = some r) : ∃ t, runFl S s xs = some t ∧ runFl S t ys = some r := by
  rw [runFl_app] at h
  exact Option.bind_eq_some_iff.1 h

theorem now_op (hS : SigOk P S) (h : Drawn P c S ops hide H0 env0 fs ts) {fb : List FOp} {rr : Env × Heap} (hb : runFl S (envT env0 fs ts, heapT H0 ts) fb = some rr) (hlen : ops.size = fs.length + fb.length)
    (hchk : ∀ (k : Nat) (f : FOp), fb[k]? = some f → ∃ o, ops[fs.length + k]? = some o ∧ chkF P c.nt ops f o = true) (htail : tailB ops fs.length = true) (hdown : downB ops = true)
    {L : Array Bool} (hs : L.size = ops.size) (hcl : Closed ops (fun i => dn L i = true)) {i : Nat} (hi : i ∈ Region.ready .any ops L) {a : Act} {w : World} (hn : Now c S H0 env0 fs ts fb (dn L) a w)
    {K : Act → World → Prop} {Q : Exit → Act → World → Prop} (hK : ∀ a' w', Now c S H0 env0 fs ts fb (ins (dn L) i) a' w' → K a' w') : wpOp P ops Q i K a w := by
  obtain ⟨hlt, hdi, o, ho, hpre⟩ := (ready_spec hs).1 hi
  have hin : ∀ i, dn L i = true → i < ops.size := by
    intro k hk
    by_cases q : k < ops.size
    · exact q
    · unfold dn at hk
      rw [Array.getD_eq_getD_getElem?, Array.getElem?_eq_none (by omega)] at hk
      cases hk
  have hbef : ∀ j, bef ops j i = true → dn L j = true := fun j hj => closed_bef hcl hin i j o ho hpre hj
  have hclo : ∀ k j, dn L k = true → bef ops j k = true → dn L j = true := by
    intro k j hk hj
    have hkl := hin k hk
    have hok : ops[k]? = some ops[k] := by simp [hkl]
    exact closed_bef hcl hin k j _ hok (hcl k _ hk hok) hj
  have fin : (if Region.wanted o (yielded ops a.tmps) then o.wp P a w K Q else K (a.put o.dst undef) w) → wpOp P ops Q i K a w := by
    intro hh
    unfold wpOp
    rw [ho]
    simp only
    split
    · rename_i hw; rw [if_pos hw] at hh; exact .inl hh
    · rename_i hw; rw [if_neg hw] at hh; exact hh
  by_cases him : i < fs.length
  · rcases hn with ⟨hA, hsr⟩ | ⟨p, r, hp, hD, hr, hsr⟩
    · have hfi : fs[i]? = some fs[i] := by simp [him]
      obtain ⟨v, pre, Hq, ht, hsub, hst, henv, hheap⟩ := h.step hfi hdi hbef hclo
      obtain ⟨o', ho', hc⟩ := h.chk i _ hfi
      rw [ho] at ho'
      obtain rfl := Option.some.inj ho'
      obtain ⟨J, loc, φ, hx⟩ := hsr
      refine fin (f_ok hS hx hsub hc hst (fun a' w' hs' => hK a' w' (.inl ⟨?_, hs'.look henv hheap⟩)))
      intro k hk
      simp only [ins]
      rw [hA k hk]
      simp
      omega
    · rw [hD] at hdi
      simp [ltB] at hdi
      omega
  · have hall : ∀ j, j < i → dn L j = true := fun j hj => hbef j (tailB_spec htail hlt (by omega) hj)
    have hnone : ∀ k, i ≤ k → dn L k = false := by
      intro k hk
      cases e : dn L k with
      | false => rfl
      | true =>
        by_cases q : k = i
        · rw [q, hdi] at e; cases e
        · have := hclo k i e (tailB_spec htail (hin k e) (by omega) (by omega))
          rw [hdi] at this
          cases this
    have hDi : dn L = ltB i := by
      funext k
      by_cases q : k < i
      · rw [hall k q]; simp [ltB, q]
      · rw [hnone k (by omega)]; simp [ltB, q]
    have hins : ins (dn L) i = ltB (i + 1) := by
      rw [hDi]
      funext k
      simp only [ins, ltB]
      by_cases e : k = i
      · subst e; simp
      · simp [e]; omega
    -- the state as one of the tail's
    have hst : ∃ p r, fs.length + p = i ∧ runFl S (envT env0 fs ts, heapT H0 ts) (fb.take p) = some r ∧ SR c r.1 r.2 a w := by
      rcases hn with ⟨hA, hsr⟩ | ⟨p, r, hp, hD, hr, hsr⟩
      · have hie : i = fs.length := by
          by_cases q : fs.length < i
          · have := hA fs.length (Nat.le_refl _)
            rw [hall _ q] at this
            cases this
          · omega
        refine ⟨0, (envT env0 fs ts, heapT H0 ts), by omega, by simp [runFl], ?_⟩
        have hts := runT_length h.run
        rw [← envS_all (D := dn L) (k0 := 0) (fun k hk => hall k (by omega)), ← heapS_all (D := dn L) (k0 := 0) (ts := ts) (fun k hk => hall k (by omega))]
        exact hsr
      · refine ⟨p, r, ?_, hr, hsr⟩
        rw [hDi] at hD
        have e1 := congrFun hD i
        have e2 := congrFun hD (fs.length + p)
        simp only [ltB, Nat.lt_irrefl, decide_false] at e1 e2
        simp at e1 e2
        omega
    obtain ⟨p, r, hpi, hr, hsr⟩ := hst
    have hpl : p < fb.length := by omega
    have hfp : fb[p]? = some fb[p] := by simp [hpl]
    obtain ⟨o', ho', hc⟩ := hchk p _ hfp
    rw [hpi, ho] at ho'
    obtain rfl := Option.some.inj ho'
    have hsplit : fb = fb.take p ++ (fb[p] :: fb.drop (p + 1)) := by
      rw [← List.drop_eq_getElem_cons hpl, List.take_append_drop]
    rw [hsplit] at hb
    obtain ⟨t, ht1, ht2⟩ := runFl_prefix hb
    rw [hr] at ht1
    obtain rfl := Option.some.inj ht1
    simp only [runFl] at ht2
    obtain ⟨q, hq1, hq2⟩ := Option.bind_eq_some_iff.1 ht2
    obtain ⟨J, loc, φ, hx⟩ := hsr
    refine fin (f_ok hS hx (fun _ _ k => k) hc hq1 (fun a' w' hs' => hK a' w' (.inr ⟨p + 1, (put fb[p].d q.1 r.1, q.2), by omega, ?_, ?_, hs'⟩)))
    · rw [hins, ← hpi]; rfl
    · rw [List.take_succ_eq_append_getElem hpl, runFl_app, hr]
      simp only [Option.bind_some, runFl, hq1]

def undone (L : Array Bool) : Nat → Nat
  | 0 => 0
  | n + 1 => undone L n + (if dn L n then 0 else 1)
theorem undone_le (L : Array Bool) : ∀ n, undone L n ≤ n
  | 0 => Nat.le_refl _
  | n + 1 => by simp only [undone]; have := undone_le L n; split <;> omega
theorem undone_zero {L : Array Bool} : ∀ {n : Nat}, undone L n = 0 → ∀ i, i < n → dn L i = true
  | 0, _, i, hi => by omega
  | n + 1, h, i, hi => by
    simp only [undone] at h
    by_cases e : i = n
    · subst e
      split at h
      · assumption
      · omega
    · exact undone_zero (n := n) (by omega) i (by omega)
theorem undone_set {L : Array Bool} {i : Nat} (hs : i < L.size) (hi : dn L i = false) : ∀ n, undone (L.setIfInBounds i true) n + (if i < n then 1 else 0) = undone L n
  | 0 => by simp [undone]
  | n + 1 => by
    have := undone_set hs hi n
    simp only [undone, dn_ins hs, ins]
    by_cases e : n = i
    · subst e
      simp only [decide_true, Bool.true_or, if_true, hi, Bool.false_eq_true, if_false, Nat.lt_irrefl, Nat.lt_succ_self] at this ⊢
      omega
    · simp only [e, decide_false, Bool.false_or]
      by_cases q : i < n
      · rw [if_pos q] at this
        rw [if_pos (show i < n + 1 by omega)]
        omega
      · rw [if_neg q] at this
        rw [if_neg (show ¬ i < n + 1 by omega)]
        omega

theorem any_ok (hS : SigOk P S) (h : Drawn P c S ops hide H0 env0 fs ts) {fb : List FOp} {rr : Env × Heap} (hb : runFl S (envT env0 fs ts, heapT H0 ts) fb = some rr) (hlen : ops.size = fs.length + fb.length)
    (hchk : ∀ (k : Nat) (f : FOp), fb[k]? = some f → ∃ o, ops[fs.length + k]? = some o ∧ chkF P c.nt ops f o = true) (htail : tailB ops fs.length = true) (hdown : downB ops = true) {Q : Exit → Act → World → Prop} (hQ : ∀ a' w', SR c rr.1 rr.2 a' w' → Q .normal a' w') :
    ∀ (n : Nat) (L : Array Bool) (a : Act) (w : World), L.size = ops.size → undone L ops.size ≤ n → Closed ops (fun i => dn L i = true) → Now c S H0 env0 fs ts fb (dn L) a w → wpAny P .any ops Q n L a w := by
  have done : ∀ (L : Array Bool) (a : Act) (w : World), (∀ i, i < ops.size → dn L i = true) → Now c S H0 env0 fs ts fb (dn L) a w → Q .normal a w := by
    intro L a w hall hn
    refine hQ a w ?_
    have hts := runT_length h.run
    rcases hn with ⟨hA, hsr⟩ | ⟨p, r, hp, hD, hr, hsr⟩
    · have hfb : fb = [] := by
        by_cases e : fb.length = 0
        · exact List.eq_nil_of_length_eq_zero e
        · have := hA fs.length (Nat.le_refl _)
          rw [hall _ (by omega)] at this
          cases this
      subst hfb
      obtain rfl := Option.some.inj hb
      simp only [List.length_nil, Nat.add_zero] at hlen
      simp only
      rw [← envS_all (D := dn L) (k0 := 0) (fun k hk => hall k (by omega)), ← heapS_all (D := dn L) (k0 := 0) (ts := ts) (fun k hk => hall k (by omega))]
      exact hsr
    · have hpe : p = fb.length := by
        by_cases e : p < fb.length
        · have := hall (fs.length + p) (by omega)
          rw [hD] at this
          simp [ltB] at this
        · omega
      subst hpe
      rw [List.take_length, hb] at hr
      obtain rfl := Option.some.inj hr
      exact hsr
  intro n
  induction n with
  | zero =>
    intro L a w hs hu hcl hn
    have hall := undone_zero (Nat.le_zero.1 hu)
    refine ⟨?_, done L a w hall hn⟩
    cases hr : Region.ready .any ops L with
    | nil => rfl
    | cons i r =>
      have : i ∈ Region.ready .any ops L := by rw [hr]; simp
      obtain ⟨h1, h2, _⟩ := (ready_spec hs).1 this
      rw [hall i h1] at h2
      cases h2
  | succ n ih =>
    intro L a w hs hu hcl hn
    refine ⟨fun hr => done L a w (ready_nil hs hdown hr) hn, fun i hi => ?_⟩
    obtain ⟨hlt, hdi, o, ho, hpre⟩ := (ready_spec hs).1 hi
    have hil : i < L.size := by omega
    refine now_op hS h hb hlen hchk htail hdown hs hcl hi hn (fun a' w' hn' => ih _ a' w' (by simpa using hs) ?_ ?_ ?_)
    · have := undone_set hil hdi ops.size
      rw [if_pos hlt] at this
      omega
    · intro k ok hk hok e he hbe
      rw [dn_ins hil] at hk ⊢
      simp only [ins, Bool.or_eq_true, decide_eq_true_eq] at hk ⊢
      rcases hk with rfl | hk
      · rw [ho] at hok
        obtain rfl := Option.some.inj hok
        exact .inr (hpre e he hbe)
      · exact .inr (hcl k ok hk hok e he hbe)
    · rw [dn_ins hil]
      exact hn'

def chkA (P : Program) (nt : Nat) (ops : Array Oper) : Nat → FL → Bool
  | _, [] => true
  | i, p :: r => (match ops[i]? with
    | some o => chkF P nt ops p.2 o
    | none => false) && chkA P nt ops (i + 1) r
theorem chkA_spec {nt : Nat} : ∀ {r : FL} {i0 k : Nat} {p : Bool × FOp}, chkA P nt ops i0 r = true → r[k]? = some p → ∃ o, ops[i0 + k]? = some o ∧ chkF P nt ops p.2 o = true
  | [], _, _, _, _, h => by simp at h
  | q :: r, i0, 0, p, hc, h => by
    simp only [chkA, Bool.and_eq_true] at hc
    obtain rfl := Option.some.inj (show some q = some p from h)
    obtain ⟨hc, _⟩ := hc
    split at hc
    · rename_i o ho
      exact ⟨o, ho, hc⟩
    · cases hc
  | q :: r, i0, k + 1, p, hc, h => by
    simp only [chkA, Bool.and_eq_true] at hc
    have := chkA_spec (k := k) hc.2 (by simpa using h)
    rwa [show i0 + 1 + k = i0 + (k + 1) by omega] at this

/-- What a region that draws its order must fulfil. -/
def chkD (P : Program) (nt : Nat) (ops : Array Oper) (a : List (Bool × ROp)) (b : List ROp) : Bool :=
  okL [] (a.map (·.2) ++ b) && chkRows (Region.before ops) (flatD a) 0 (flatD a) && chkA P nt ops 0 (flatD a ++ (flatL none b).map (fun f => (false, f))) &&
    decide (ops.size = (flatD a).length + (flatL none b).length) && tailB ops (flatD a).length && downB ops
end
end Go.Lev
