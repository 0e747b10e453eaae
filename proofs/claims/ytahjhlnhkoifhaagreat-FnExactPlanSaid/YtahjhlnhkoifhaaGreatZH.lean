/- Calls that lend objects and whose results become objects. -/
import Derived.Test.YtahjhlnhkoifhaaGreatZG2
set_option linter.unusedVariables false
set_option linter.unusedSimpArgs false
namespace Go.Lev

theorem distinct_nodup : ∀ {l : List Nat}, distinct l = true → l.Nodup
  | [], _ => List.nodup_nil
  | n :: r, h => by
    simp only [distinct, Bool.and_eq_true, Bool.not_eq_true', List.contains_eq_mem, decide_eq_false_iff_not] at h
    exact List.nodup_cons.2 ⟨h.1, distinct_nodup h.2⟩

theorem lend1_ge {n : Nat} {v : LV} {p : Nat × Nat} (h : p ∈ lend1 n v) : n ≤ p.1 := by
  cases v <;> simp [lend1] at h <;> (subst h; exact Nat.le_refl _)
theorem lendCs_ge : ∀ {n : Nat} {cs : List LV} {p : Nat × Nat}, p ∈ lendCs n cs → n ≤ p.1
  | _, [], p, h => by simp [lendCs] at h
  | n, c :: r, p, h => by
    simp only [lendCs, List.mem_append] at h
    rcases h with h | h
    · exact lend1_ge h
    · have := lendCs_ge h; omega
theorem lendArg_ge {n : Nat} {v : LV} {p : Nat × Nat} (h : p ∈ lendArg n v) : n ≤ p.1 := by
  cases v <;> simp only [lendArg] at h <;> first
    | exact lendCs_ge h
    | exact lend1_ge h
theorem lendN_ge (lent : List Nat) : ∀ (i : Nat) (vs : List LV) (p : Nat × Nat), p ∈ lendN lent i vs → 900000 ≤ p.1
  | _, [], p, h => by simp [lendN] at h
  | i, v :: r, p, h => by
    simp only [lendN, List.mem_append] at h
    rcases h with h | h
    · split at h
      · have := lendArg_ge h; omega
      · cases h
    · exact lendN_ge lent (i + 1) r p h
theorem back_pure {r2 : Heap} : ∀ {nm : List (Nat × Nat)} {hb : Heap}, Lev.back nm r2 = some hb → pureH hb = true → ∀ {q : Nat × Nat} {x : Rows}, q ∈ nm → live r2 q.1 = some x → pureR x = true
  | [], hb, _, _, q, x, hq, _ => by cases hq
  | (n, o) :: r, hb, e, hp, q, x, hq, hx => by
    simp only [Lev.back] at e
    obtain ⟨y, hy, e⟩ := Option.bind_eq_some_iff.1 e
    obtain ⟨t, ht, e⟩ := Option.bind_eq_some_iff.1 e
    obtain rfl := Option.some.inj e
    simp only [pureH, List.all_cons, Bool.and_eq_true] at hp
    rcases List.mem_cons.1 hq with rfl | hq
    · have : y = some x := by
        unfold live at hx
        rw [hy] at hx
        exact hx
      subst this
      exact hp.1
    · exact back_pure ht hp.2 hq hx

theorem look_mem : ∀ {nm : List (Nat × Nat)} {n o : Nat}, look nm n = some o → (n, o) ∈ nm
  | [], n, o, h => by simp [look] at h
  | (k, v) :: r, n, o, h => by
    rw [look_cons] at h
    split at h
    · rename_i e; subst e; obtain rfl := Option.some.inj h; simp
    · exact List.mem_cons_of_mem _ (look_mem h)
theorem mem_look : ∀ {nm : List (Nat × Nat)} {n o : Nat}, (nm.map (·.1)).Nodup → (n, o) ∈ nm → look nm n = some o
  | [], n, o, _, h => by cases h
  | (k, v) :: r, n, o, hn, h => by
    rw [List.map_cons, List.nodup_cons] at hn
    rw [look_cons]
    rcases List.mem_cons.1 h with e | h'
    · obtain ⟨rfl, rfl⟩ := Prod.mk.inj e; simp
    · have : n ≠ k := by
        intro e
        exact hn.1 (List.mem_map.2 ⟨_, h', e⟩)
      rw [if_neg this]
      exact mem_look hn.2 h'

theorem lendO_look {H : Heap} : ∀ {nm : List (Nat × Nat)} {h : Heap}, lendO H nm = some h → ∀ n y, look h n = some y → ∃ o x, look nm n = some o ∧ live H o = some x ∧ y = some x ∧ rowsPlain x = true
  | [], h, e, n, y, hl => by obtain rfl := Option.some.inj e; simp [look] at hl
  | (k, o) :: r, h, e, n, y, hl => by
    simp only [lendO] at e
    cases hlv : live H o with
    | none => rw [hlv] at e; cases e
    | some x =>
      rw [hlv] at e
      simp only [Option.bind_some] at e
      split at e
      · rename_i hp
        cases hr : lendO H r with
        | none => rw [hr] at e; cases e
        | some t =>
          rw [hr] at e
          obtain rfl := Option.some.inj e
          rw [look_cons] at hl ⊢
          split at hl
          · rename_i e; subst e
            obtain rfl := Option.some.inj hl
            exact ⟨o, x, by simp, hlv, rfl, hp⟩
          · rename_i e
            rw [if_neg e]
            exact lendO_look hr n y hl
      · cases e
theorem lendO_live {H : Heap} : ∀ {nm : List (Nat × Nat)} {h : Heap}, lendO H nm = some h → ∀ p, p ∈ nm → ∃ x, live H p.2 = some x
  | [], h, e, p, hp => by cases hp
  | (k, o) :: r, h, e, p, hp => by
    simp only [lendO] at e
    cases hlv : live H o with
    | none => rw [hlv] at e; cases e
    | some x =>
      rw [hlv] at e
      simp only [Option.bind_some] at e
      split at e
      · cases hr : lendO H r with
        | none => rw [hr] at e; cases e
        | some t =>
          rcases List.mem_cons.1 hp with rfl | hp
          · exact ⟨x, hlv⟩
          · exact lendO_live hr p hp
      · cases e

section
variable {P : Program} {c : Ctx} {J : Nat → Prop} {loc : Nat → Loc} {φ : Nat → List Nat} {env : Env} {H : Heap} {a : Act} {w : World} {S : Sig} {o : Oper} {imm : Nat → Prop}

theorem lv1_rel {imm imm' : Nat → Prop} {locL : Nat → Loc} {H : Heap} {n : Nat} (hi : ∀ b, imm b → imm' b) (hH : HRel w imm loc φ H) {v : LV} {u : Value} (hl : ∀ p, p ∈ lend1 n v → locL p.1 = loc p.2) (h : VRel w imm loc v u) : VRel w imm' locL (lv1 H n v) u := by
  cases v
  case sl es o off len =>
    simp only [lv1, VRel] at h ⊢
    rw [hl (n, o) (by simp [lend1])]
    exact h
  case ptr o e j =>
    simp only [lv1, VRel] at h ⊢
    rw [hl (n, o) (by simp [lend1])]
    exact h
  all_goals exact frz0_rel hi hH (.inl rfl) h
theorem lvCs_rel {imm imm' : Nat → Prop} {locL : Nat → Loc} {H : Heap} (hi : ∀ b, imm b → imm' b) (hH : HRel w imm loc φ H) : ∀ {n : Nat} {cs : List LV} {us : List Value}, (∀ p, p ∈ lendCs n cs → locL p.1 = loc p.2) → VC w imm loc cs us → VC w imm' locL (lvCs H n cs) us
  | _, [], us, _, h => h
  | n, c :: cs, us, hl, h => by
    simp only [VC] at h
    obtain ⟨u, t, rfl, h1, h2⟩ := h
    simp only [lendCs] at hl
    simp only [lvCs, VC]
    exact ⟨u, t, rfl, lv1_rel hi hH (fun p hp => hl p (List.mem_append_left _ hp)) h1, lvCs_rel hi hH (fun p hp => hl p (List.mem_append_right _ hp)) h2⟩
theorem lvArg_rel {imm imm' : Nat → Prop} {locL : Nat → Loc} {H : Heap} {n : Nat} (hi : ∀ b, imm b → imm' b) (hH : HRel w imm loc φ H) {v : LV} (hf : (match v with | .fn _ _ => false | _ => true) = true ∨ v.noRef = true ∨ ∀ n x, live H n = some x → ∀ b, b ∈ φ n → imm' b) {u : Value} (hl : ∀ p, p ∈ lendArg n v → locL p.1 = loc p.2) (h : VRel w imm loc v u) : VRel w imm' locL (lvArg H n v) u := by
  cases v
  case agg cs =>
    simp only [lvArg, VRel] at h ⊢
    obtain ⟨vs, rfl, h1, h2⟩ := h
    exact ⟨vs, rfl, h1, lvCs_rel hi hH hl h2⟩
  case sl es o off len => exact lv1_rel (v := .sl es o off len) hi hH hl h
  case ptr o e j => exact lv1_rel (v := .ptr o e j) hi hH hl h
  case fn f cs => exact frz_rel hi hH (by simpa using hf) h
  all_goals exact frz_rel hi hH (.inl rfl) h

theorem lendV_rel {imm imm' : Nat → Prop} {locL : Nat → Loc} {H : Heap} {lent : List Nat} (hi : ∀ b, imm b → imm' b) (hH : HRel w imm loc φ H) :
    ∀ {i : Nat} {vs : List LV} {us : List Value}, (lendOk lent i vs = true ∨ ∀ n x, live H n = some x → ∀ b, b ∈ φ n → imm' b) → (∀ p, p ∈ lendN lent i vs → locL p.1 = loc p.2) → VC w imm loc vs us → VC w imm' locL (lendV H lent i vs) us
  | _, [], us, _, _, h => h
  | i, v :: r, us, hf, hl, h => by
    simp only [VC] at h
    obtain ⟨u, t, rfl, h1, h2⟩ := h
    have hf2 : lendOk lent (i + 1) r = true ∨ ∀ n x, live H n = some x → ∀ b, b ∈ φ n → imm' b := hf.imp (fun k => by simp only [lendOk, Bool.and_eq_true] at k; exact k.2) id
    simp only [lendN] at hl
    have tail : VC w imm' locL (lendV H lent (i + 1) r) t := lendV_rel hi hH hf2 (fun p hp => hl p (List.mem_append_right _ hp)) h2
    simp only [lendV, VC]
    refine ⟨u, t, rfl, ?_, tail⟩
    cases hc : lent.contains i with
    | true =>
      rw [hc] at hl
      simp only [if_true] at hl ⊢
      refine lvArg_rel hi hH ?_ (fun p hp => hl p (List.mem_append_left _ hp)) h1
      rcases hf with k | k
      · simp only [lendOk, hc, Bool.true_and, Bool.and_eq_true, Bool.or_eq_true] at k
        rcases k.1 with k | k
        · exact .inl k
        · exact .inr (.inl k)
      · exact .inr (.inr k)
    | false =>
      simp only [Bool.false_eq_true, if_false]
      refine frz_rel hi hH ?_ h1
      rcases hf with k | k
      · simp only [lendOk, hc, Bool.false_and, Bool.false_or, Bool.and_eq_true] at k
        exact .inl k.1
      · exact .inr k

/-- Objects that come back from a call. -/
theorem SRx.back {locL : Nat → Loc} {φL : Nat → List Nat} {r2 : Heap} : ∀ {nm : List (Nat × Nat)} {hb : Heap} {H0 : Heap}, SRx c J loc φ env H0 a w → Lev.back nm r2 = some hb → (nm.map (·.2)).Nodup → (nm.map (·.1)).Nodup → (∀ p, p ∈ nm → live H0 p.2 = none ∧ loc p.2 = locL p.1) →
    (∀ p x, p ∈ nm → live r2 p.1 = some x → ObjRel w (Im c J) loc x (locL p.1) (φL p.1) ∧ (φL p.1).Nodup ∧ ∀ b, b ∈ φL p.1 → (b ∈ c.O0 ∨ c.w0.heap.size ≤ b) ∧ b < w.heap.size ∧ ¬ J b ∧ ∀ m y, live H0 m = some y → b ∉ φ m) →
    (∀ p q x y, p ∈ nm → q ∈ nm → p.1 ≠ q.1 → live r2 p.1 = some x → live r2 q.1 = some y → ∀ b, b ∈ φL p.1 → b ∉ φL q.1) →
    ∃ φ2, SRx c J loc φ2 env (hb ++ H0) a w ∧ (∀ m, m ∉ nm.map (·.2) → φ2 m = φ m) ∧ (∀ m y, live (hb ++ H0) m = some y → (m ∉ nm.map (·.2) ∧ live H0 m = some y) ∨ ∃ p, p ∈ nm ∧ p.2 = m ∧ live r2 p.1 = some y ∧ φ2 m = φL p.1)
  | [], hb, H0, h, e, _, _, _, _, _ => by
    obtain rfl := Option.some.inj e
    exact ⟨φ, h, fun _ _ => rfl, fun m y hm => .inl ⟨by simp, hm⟩⟩
  | (n, ob) :: r, hb, H0, h, e, hn2, hn1, hd, ho, hx => by
    simp only [Lev.back] at e
    cases hl : look r2 n with
    | none => rw [hl] at e; cases e
    | some x =>
      rw [hl] at e
      simp only [Option.bind_some] at e
      cases hr : Lev.back r r2 with
      | none => rw [hr] at e; cases e
      | some t =>
        rw [hr] at e
        obtain rfl := Option.some.inj e
        rw [List.map_cons, List.nodup_cons] at hn1 hn2
        obtain ⟨φ2, g1, g2, g3⟩ := SRx.back h hr hn2.2 hn1.2 (fun p hp => hd p (List.mem_cons_of_mem _ hp)) (fun p x hp => ho p x (List.mem_cons_of_mem _ hp)) (fun p q x y hp hq => hx p q x y (List.mem_cons_of_mem _ hp) (List.mem_cons_of_mem _ hq))
        have hdead : live (t ++ H0) ob = none := by
          cases hk : live (t ++ H0) ob with
          | none => rfl
          | some y =>
            rcases g3 ob y hk with ⟨_, k⟩ | ⟨p, hp, e, _⟩
            · rw [(hd (n, ob) (List.mem_cons_self ..)).1] at k; cases k
            · exact absurd (List.mem_map.2 ⟨p, hp, e⟩) hn2.1
        cases x with
        | none =>
          refine ⟨φ2, g1.kill ob, fun m hm => g2 m (fun k => hm (by rw [List.map_cons]; exact List.mem_cons_of_mem _ k)), fun m y hm => ?_⟩
          rw [List.cons_append, live_cons] at hm
          split at hm
          · cases hm
          · rename_i e
            rcases g3 m y hm with ⟨k1, k2⟩ | ⟨p, hp, k1, k2, k3⟩
            · refine .inl ⟨?_, k2⟩
              rw [List.map_cons, List.mem_cons]
              rintro (k | k)
              · exact e k
              · exact k1 k
            · exact .inr ⟨p, List.mem_cons_of_mem _ hp, k1, k2, k3⟩
        | some x =>
          have hlx : live r2 n = some x := by unfold live; rw [hl]; rfl
          obtain ⟨q1, q2, q3⟩ := ho (n, ob) x (List.mem_cons_self ..) hlx
          have hloc := (hd (n, ob) (List.mem_cons_self ..)).2
          have hadd := g1.add (n := ob) (x := x) (l := loc ob) (fp := φL n) (.inr rfl) (h.nodead ob) hdead (by rw [upd_self, hloc]; exact q1) q2 (by
            intro b hb
            obtain ⟨s1, s2, s3, s4⟩ := q3 b hb
            refine ⟨s1, s2, s3, fun m y hm hk => ?_⟩
            rcases g3 m y hm with ⟨k1, k2⟩ | ⟨p, hp, k1, k2, k3⟩
            · rw [g2 m k1] at hk
              exact s4 m y k2 hk
            · rw [k3] at hk
              refine hx (n, ob) p x y (List.mem_cons_self ..) (List.mem_cons_of_mem _ hp) ?_ hlx k2 b hb hk
              intro e
              exact hn1.1 (List.mem_map.2 ⟨p, hp, e.symm⟩))
          rw [upd_self] at hadd
          refine ⟨_, hadd, fun m hm => ?_, fun m y hm => ?_⟩
          · rw [List.map_cons, List.mem_cons, not_or] at hm
            rw [upd_ne _ _ hm.1]
            exact g2 m hm.2
          · rw [List.cons_append, live_cons] at hm
            split at hm
            · rename_i e
              subst e
              obtain rfl := Option.some.inj hm
              exact .inr ⟨(n, m), List.mem_cons_self .., rfl, hlx, upd_same _ _ _⟩
            · rename_i e
              rcases g3 m y hm with ⟨k1, k2⟩ | ⟨p, hp, k1, k2, k3⟩
              · refine .inl ⟨?_, k2⟩
                rw [List.map_cons, List.mem_cons]
                rintro (k | k)
                · exact e k
                · exact k1 k
              · exact .inr ⟨p, List.mem_cons_of_mem _ hp, k1, k2, by rw [upd_ne _ _ e]; exact k3⟩

/-- Results that become objects. -/
theorem freshAll_app {H h1 h2 : Heap} (h : freshAll H (h1 ++ h2) = true) : freshAll H h1 = true ∧ freshAll H h2 = true := by
  simpa [freshAll, List.all_append] using h

theorem freshAll_over {H h1 h2 : Heap} (hf : freshAll H h1 = true) (hd : distinct ((h1 ++ h2).map (·.1)) = true) : freshAll (h2 ++ H) h1 = true := by
  have hn := distinct_nodup hd
  rw [List.map_append, List.nodup_append] at hn
  unfold freshAll at hf ⊢
  rw [List.all_eq_true] at hf ⊢
  intro p hp
  have := hf p hp
  simp only [freshN, Bool.and_eq_true, Option.isNone_iff_eq_none, decide_eq_true_eq] at this ⊢
  refine ⟨⟨?_, this.1.2⟩, this.2⟩
  rw [look_append, this.1.1]
  cases hl : look h2 p.1 with
  | none => rfl
  | some y =>
    exfalso
    have : p.1 ∈ h2.map (·.1) := by
      clear hd hn hf
      induction h2 with
      | nil => simp [look] at hl
      | cons q t ih =>
        obtain ⟨k, v⟩ := q
        rw [look_cons] at hl
        split at hl
        · rename_i e; simp [e]
        · have := ih hl; simp at this ⊢; exact .inr this
    exact hn.2.2 p.1 (List.mem_map.2 ⟨p, hp, rfl⟩) p.1 this rfl

theorem OutV_single {imm1 : Nat → Prop} {loc1 : Nat → Loc} {lv : LV} {v : Value} {fp : List Nat} (hne : ∀ cs, lv ≠ .agg cs) (h : OutV w imm1 loc1 lv v fp) : OwnC w imm1 loc1 [lv] [v] fp := by
  simp only [OwnC]
  refine ⟨v, [], fp, [], rfl, by simp, ?_, rfl⟩
  cases lv <;> first | exact h | exact absurd rfl (hne _)

theorem SRx.adoptR {ok : Bool} {imm1 : Nat → Prop} {loc1 : Nat → Loc} (h : SRx c J loc φ env H a w) (hi : ∀ b, ok = true → imm1 b → Im c J b) : ∀ {rs : List LV} {vs : List Value} {fp : List Nat} {d : Nat}, OutL w imm1 loc1 rs vs fp → fp.Nodup →
    (∀ b, b ∈ fp → (b ∈ c.O0 ∨ c.w0.heap.size ≤ b) ∧ b < w.heap.size ∧ ¬ J b ∧ ∀ m y, live H m = some y → b ∉ φ m) → freshAll H (impR ok d rs).2 = true → distinct ((impR ok d rs).2.map (·.1)) = true → ((∀ b, imm1 b → Im c J b) ∨ pureH (impR ok d rs).2 = true) →
    ∃ loc' φ', SRx c J loc' φ' env ((impR ok d rs).2 ++ H) a w ∧ VC w (Im c J) loc' (impR ok d rs).1 vs ∧ (∀ m, look H m ≠ none → loc' m = loc m ∧ φ' m = φ m) ∧ (∀ m, loc m = .unk ∨ loc' m = loc m) ∧ (∀ m y, live (impR ok d rs).2 m = some y → ∀ b, b ∈ φ' m → b ∈ fp)
  | [], vs, fp, d, ho, hnd, hf, hfr, hdi, hpu => by
    obtain ⟨rfl, rfl⟩ := ho
    exact ⟨loc, φ, h, by simp [impR, VC], fun m _ => ⟨rfl, rfl⟩, fun m => .inr rfl, by simp [impR, live, look]⟩
  | lv :: rs, vs, fp, d, ho, hnd, hf, hfr, hdi, hpu => by
    simp only [OutL] at ho
    obtain ⟨v, t, f1, f2, rfl, rfl, h1, h2⟩ := ho
    -- one result after the others
    have key : ∀ (cs : List LV) (us : List Value) (f : LV → LV), OwnC w imm1 loc1 cs us f1 → us.length = cs.length → (impR ok d (lv :: rs)).2 = (impC ok d cs).2 ++ (impR ok (d + 50) rs).2 →
        ∃ loc' φ', SRx c J loc' φ' env ((impR ok d (lv :: rs)).2 ++ H) a w ∧ VC w (Im c J) loc' (impC ok d cs).1 us ∧ (∀ u ∈ us, u.oneCell' = true) ∧ VC w (Im c J) loc' (impR ok (d + 50) rs).1 t ∧ (∀ m, look H m ≠ none → loc' m = loc m ∧ φ' m = φ m) ∧ (∀ m, loc m = .unk ∨ loc' m = loc m) ∧ (∀ m y, live (impR ok d (lv :: rs)).2 m = some y → ∀ b, b ∈ φ' m → b ∈ f1 ++ f2) := by
      intro cs us _ hC hul he
      rw [he] at hfr hdi hpu ⊢
      have hpu1 : ((∀ b, imm1 b → Im c J b) ∨ pureH (impC ok d cs).2 = true) ∧ ((∀ b, imm1 b → Im c J b) ∨ pureH (impR ok (d + 50) rs).2 = true) := by
        rcases hpu with k | k
        · exact ⟨.inl k, .inl k⟩
        · simp only [pureH, List.all_append, Bool.and_eq_true] at k
          exact ⟨.inr k.1, .inr k.2⟩
      obtain ⟨hpu1, hpu2⟩ := hpu1
      obtain ⟨fr1, fr2⟩ := freshAll_app hfr
      rw [List.nodup_append] at hnd
      have hd2 : distinct ((impR ok (d + 50) rs).2.map (·.1)) = true := by
        have : ∀ (l1 l2 : List Nat), distinct (l1 ++ l2) = true → distinct l2 = true := by
          intro l1 l2
          induction l1 with
          | nil => exact id
          | cons x l1 ih => intro k; simp only [List.cons_append, distinct, Bool.and_eq_true] at k; exact ih k.2
        rw [List.map_append] at hdi
        exact this _ _ hdi
      obtain ⟨loc2, φ2, g1, g2, g3, g4, g5⟩ := SRx.adoptR h hi h2 hnd.2.1 (fun b hb => hf b (List.mem_append_right _ hb)) fr2 hd2 hpu2
      have hfr1 := freshAll_over fr1 hdi
      rw [impC_adopt] at hfr1 hpu1
      obtain ⟨loc3, φ3, k1, k2, k3, k4, k5, k6⟩ := g1.adopt (g := impF0 ok) (imm1 := imm1) (loc1 := loc1)
        (fun c0 v f hne hv lc hlc => by
          have hfe : ∀ b, b ∈ f → Im c J b := by
            intro b hb
            exfalso
            cases c0 <;> first
              | exact absurd rfl (hne _ _)
              | (simp only [OwnV] at hv; rw [hv.2] at hb; cases hb)
          exact impF0_rel (loc := loc1) hi hfe hv) hC hnd.1 (by
          intro b hb
          obtain ⟨q1, q2, q3, q4⟩ := hf b (List.mem_append_left _ hb)
          refine ⟨q1, q2, q3, fun m y hm hk => ?_⟩
          rw [live_append] at hm
          cases hlk : look (impR ok (d + 50) rs).2 m with
          | none =>
            rw [hlk] at hm
            have hm' : live H m = some y := hm
            rw [(g3 m (by rw [look_of_live hm']; simp)).2] at hk
            exact q4 m y hm' hk
          | some z =>
            rw [hlk] at hm
            have hm' : z = some y := hm
            exact hnd.2.2 b hb b (g5 m y (by unfold live; rw [hlk, hm']; rfl) b hk) rfl) hfr1 hpu1
      rw [← impC_adopt] at k1 k2 k6
      have ht : us.take cs.length = us := List.take_of_length_le (by omega)
      rw [ht] at k2 k3
      refine ⟨loc3, φ3, by rw [List.append_assoc]; exact k1, k2, k3, VC_loc (fun m => (k5 m).imp id .inl) _ _ g2, ?_, ?_, ?_⟩
      · intro m hm
        have hm2 : look ((impR ok (d + 50) rs).2 ++ H) m ≠ none := by
          rw [look_append]
          cases look (impR ok (d + 50) rs).2 m <;> simp [hm]
        obtain ⟨e1, e2⟩ := k4 m hm2
        obtain ⟨e3, e4⟩ := g3 m hm
        exact ⟨e1.trans e3, e2.trans e4⟩
      · intro m
        rcases g4 m with e | e
        · exact .inl e
        · rcases k5 m with e' | e'
          · exact .inl (e ▸ e')
          · exact .inr (e'.trans e)
      · intro m y hm b hb
        rw [live_append] at hm
        cases hlk : look (impC ok d cs).2 m with
        | some z =>
          rw [hlk] at hm
          have hm' : z = some y := hm
          exact List.mem_append_left _ (k6 m y (by unfold live; rw [hlk, hm']; rfl) b hb)
        | none =>
          rw [hlk] at hm
          have hm' : live (impR ok (d + 50) rs).2 m = some y := hm
          have hm2 : look ((impR ok (d + 50) rs).2 ++ H) m ≠ none := by
            rw [look_append, look_of_live hm']; simp
          rw [(k4 m hm2).2] at hb
          exact List.mem_append_right _ (g5 m y hm' b hb)
    by_cases hag : ∃ cs, lv = .agg cs
    · obtain ⟨cs, rfl⟩ := hag
      obtain ⟨us, rfl, hul, hC⟩ := h1
      obtain ⟨loc', φ', k1, k2, k3, k4, k5, k6, k7⟩ := key cs us id hC hul rfl
      refine ⟨loc', φ', k1, ?_, k5, k6, k7⟩
      simp only [impR, VC]
      exact ⟨_, _, rfl, by simp only [VRel]; exact ⟨us, rfl, k3, k2⟩, k4⟩
    · have hne : ∀ cs, lv ≠ .agg cs := fun cs e => hag ⟨cs, e⟩
      have he : impR ok d (lv :: rs) = ((impC ok d [lv]).1 ++ (impR ok (d + 50) rs).1, (impC ok d [lv]).2 ++ (impR ok (d + 50) rs).2) := by
        cases lv <;> first | rfl | exact absurd rfl (hne _)
      obtain ⟨loc', φ', k1, k2, k3, k4, k5, k6, k7⟩ := key [lv] [v] id (OutV_single hne h1) rfl (by rw [he])
      refine ⟨loc', φ', k1, ?_, k5, k6, k7⟩
      rw [he]
      exact VC_app k2 k4

theorem e_call (hS : SigOk P S) (h : SRx c J loc φ env H a w) {f : Nat} {vs : List LV} {us : List Value} {lent : List Nat} {d : Nat} (hv : VC w (Im c J) loc vs us) {p : List LV × Heap × List (Nat × Nat)} (hp : lendA H lent vs = some p)
    {r : List LV × Heap} (hr : S f p.1 p.2.1 = some r) {hb : Heap} (hbk : Lev.back p.2.2 r.2 = some hb) (hfr : freshAll H (impR (lendOk lent 0 vs) (d * 1000) r.1).2 = true) (hdi : distinct ((impR (lendOk lent 0 vs) (d * 1000) r.1).2.map (·.1)) = true) (hpu : (lendOk lent 0 vs || (pureH (impR (lendOk lent 0 vs) (d * 1000) r.1).2 && pureH hb)) = true) :
    okF P f ∧ Calls P f us.toArray w fun e w' => ∃ v, e = .returned v ∧ ∃ J' loc' φ', SRx c J' loc' φ' env ((impR (lendOk lent 0 vs) (d * 1000) r.1).2 ++ (hb ++ H)) a w' ∧ VRel w' (Im c J') loc' (pack1 (impR (lendOk lent 0 vs) (d * 1000) r.1).1) v := by
  unfold lendA at hp
  split at hp
  · rename_i hdist
    cases hlo : lendO H (lendN lent 0 vs) with
    | none => rw [hlo] at hp; cases hp
    | some objs =>
      rw [hlo] at hp
      obtain rfl := Option.some.inj hp
      simp only at hr hbk
      obtain ⟨nm, hnm⟩ : ∃ nm, nm = lendN lent 0 vs := ⟨_, rfl⟩
      rw [← hnm] at hr hbk hlo hdist
      rw [Bool.and_eq_true] at hdist
      have hn1 : (nm.map (·.1)).Nodup := distinct_nodup hdist.2
      have hn2 : (nm.map (·.2)).Nodup := distinct_nodup hdist.1
      have hge : ∀ q, q ∈ nm → 900000 ≤ q.1 := fun q hq => by rw [hnm] at hq; exact lendN_ge lent 0 vs q hq
      obtain ⟨ok, hok⟩ : ∃ ok, ok = lendOk lent 0 vs := ⟨_, rfl⟩
      rw [← hok] at hfr hdi hpu ⊢
      obtain ⟨hokf, hsnd⟩ := hS f _ _ _ hr
      refine ⟨hokf, ?_⟩
      -- who is lent
      let locL : Nat → Loc := fun n => match look nm n with
        | some o => loc o
        | none => .unk
      let φL : Nat → List Nat := fun n => match look nm n with
        | some o => φ o
        | none => []
      let imm' : Nat → Prop := fun b => if ok then Im c J b else b < w.heap.size ∧ ∀ q, q ∈ nm → b ∉ φ q.2
      have hlocL : ∀ q, q ∈ nm → locL q.1 = loc q.2 ∧ φL q.1 = φ q.2 := by
        intro q hq
        have := mem_look hn1 (show (q.1, q.2) ∈ nm from hq)
        simp only [locL, φL, this]
        exact ⟨trivial, trivial⟩
      have hlive : ∀ q, q ∈ nm → ∃ x, live H q.2 = some x := fun q hq => lendO_live hlo q hq
      have hi : ∀ b, Im c J b → imm' b := by
        intro b hb
        simp only [imm']
        split
        · exact hb
        · refine ⟨h.imm_lt hb, fun q hq hk => ?_⟩
          obtain ⟨x, hx⟩ := hlive q hq
          exact h.not_imm hx hk hb
      have hlt : ∀ b, imm' b → b < w.heap.size := by
        intro b hb
        simp only [imm'] at hb
        split at hb
        · exact h.imm_lt hb
        · exact hb.1
      have hobjs : ∀ n y, look objs n = some y → ∃ o x, (n, o) ∈ nm ∧ live H o = some x ∧ y = some x ∧ rowsPlain x = true := by
        intro n y hl
        obtain ⟨o, x, k1, k2, k3, k4⟩ := lendO_look hlo n y hl
        exact ⟨o, x, look_mem k1, k2, k3, k4⟩
      have hobjl : ∀ n x, live objs n = some x → ∃ o, (n, o) ∈ nm ∧ live H o = some x ∧ rowsPlain x = true := by
        intro n x hl
        obtain ⟨o, x', k1, k2, k3, k4⟩ := hobjs n _ (look_of_live hl)
        obtain rfl := Option.some.inj k3
        exact ⟨o, k1, k2, k4⟩
      have hlent : Lent w imm' locL φL objs := by
        refine ⟨?_, ?_, ?_, ?_, ?_, ?_, ?_⟩
        · intro n y hl
          obtain ⟨o, x, k1, _⟩ := hobjs n y hl
          exact hge _ k1
        · intro n x hl
          obtain ⟨o, k1, k2, k3⟩ := hobjl n x hl
          obtain ⟨e1, e2⟩ := hlocL _ k1
          rw [e1, e2]
          exact ObjRel_take k3 (.inl hi) (h.obj o x k2)
        · intro n x hl b hb
          obtain ⟨o, k1, k2, k3⟩ := hobjl n x hl
          rw [(hlocL _ k1).2] at hb
          refine ⟨(h.rng o x k2 b hb).2.1, ?_⟩
          simp only [imm']
          split
          · exact h.not_imm k2 hb
          · exact fun k => k.2 _ k1 hb
        · intro n x hl
          obtain ⟨o, k1, k2, k3⟩ := hobjl n x hl
          rw [(hlocL _ k1).2]
          exact h.nodup o x k2
        · intro n m x y hne hx hy b hb hb'
          obtain ⟨o, k1, k2, _⟩ := hobjl n x hx
          obtain ⟨o', k1', k2', _⟩ := hobjl m y hy
          rw [(hlocL _ k1).2] at hb
          rw [(hlocL _ k1').2] at hb'
          refine h.disj o o' x y ?_ k2 k2' b hb hb'
          rintro rfl
          -- the same object under two names
          have : ∀ {l : List (Nat × Nat)}, (l.map (·.2)).Nodup → (n, o) ∈ l → (m, o) ∈ l → n = m := by
            intro l
            induction l with
            | nil => intro _ h; cases h
            | cons q t ih =>
              intro hn h1 h2
              rw [List.map_cons, List.nodup_cons] at hn
              rcases List.mem_cons.1 h1 with e1 | h1
              · rcases List.mem_cons.1 h2 with e2 | h2
                · exact (Prod.mk.inj (e1.trans e2.symm)).1
                · exact absurd (List.mem_map.2 ⟨_, h2, by rw [← e1]⟩) hn.1
              · rcases List.mem_cons.1 h2 with e2 | h2
                · exact absurd (List.mem_map.2 ⟨_, h1, by rw [← e2]⟩) hn.1
                · exact ih hn.2 h1 h2
          exact hne (this hn2 k1 k1')
        · intro n
          simp only [locL]
          split
          · exact h.nodead _
          · simp
        · intro n hn
          simp only [locL]
          split
          · rename_i o e
            have := hge _ (look_mem e)
            simp at this
            omega
          · rfl
      have hsk := SRx.kills (nm.map (·.2)) h
      have hargs : VC w imm' locL (lendV (killed (nm.map (·.2)) ++ H) lent 0 vs) us := by
        refine lendV_rel (φ := φ) hi hsk.obj ?_ (fun q hq => (hlocL q (by rw [hnm]; exact hq)).1) hv
        cases hokc : ok with
        | true => exact .inl (by rw [← hok, hokc])
        | false =>
          right
          intro n x hn b hb
          obtain ⟨t1, t2⟩ := live_of_kills hn
          simp only [imm', hokc, Bool.false_eq_true, if_false]
          refine ⟨(h.rng n x t2 b hb).2.1, fun q hq hk => ?_⟩
          obtain ⟨y, hy⟩ := hlive q hq
          exact h.disj n q.2 x y (fun e => t1 (List.mem_map.2 ⟨q, hq, e.symm⟩)) t2 hy b hb hk
      refine (hsnd w us imm' locL φL hlt hlent hargs).mono ?_
      rintro e w' ⟨rs, J1, φ', fp, rfl, post⟩
      refine ⟨_, rfl, ?_⟩
      -- the world goes on
      have hsame : ∀ b, b < w.heap.size → (∀ q, q ∈ nm → b ∉ φ q.2) → w'.heap[b]? = w.heap[b]? := by
        intro b hb hk
        refine post.same b hb (fun n x hx hb' => ?_)
        obtain ⟨o, k1, _⟩ := hobjl n x hx
        rw [(hlocL _ k1).2] at hb'
        exact hk _ k1 hb'
      have hlentIn : ∀ b, (∃ n x, live objs n = some x ∧ b ∈ φL n) → (b ∈ c.O0 ∨ c.w0.heap.size ≤ b) ∧ b < w.heap.size ∧ ¬ J b ∧ ∀ m y, live (killed (nm.map (·.2)) ++ H) m = some y → b ∉ φ m := by
        rintro b ⟨n, x, hx, hb⟩
        obtain ⟨o, k1, k2, _⟩ := hobjl n x hx
        rw [(hlocL _ k1).2] at hb
        obtain ⟨q1, q2, q3⟩ := h.rng o x k2 b hb
        refine ⟨q1, q2, q3, fun m y hm hk => ?_⟩
        obtain ⟨t1, t2⟩ := live_of_kills hm
        refine h.disj o m x y ?_ k2 t2 b hb hk
        rintro rfl
        exact t1 (List.mem_map.2 ⟨_, k1, rfl⟩)
      have hw := hsk.world (w' := w') post.os post.tape post.output post.size (by
        rintro k hk (⟨m, y, hm, hkm⟩ | hkI | ⟨hk1, hk2⟩)
        · obtain ⟨t1, t2⟩ := live_of_kills hm
          refine hsame k hk (fun q hq hk' => ?_)
          obtain ⟨x, hx⟩ := hlive q hq
          exact h.disj m q.2 y x (fun e => t1 (List.mem_map.2 ⟨q, hq, e.symm⟩)) t2 hx k hkm hk'
        · refine hsame k hk (fun q hq hk' => ?_)
          obtain ⟨x, hx⟩ := hlive q hq
          exact h.not_imm hx hk' hkI
        · refine hsame k hk (fun q hq hk' => ?_)
          obtain ⟨x, hx⟩ := hlive q hq
          rcases (h.rng q.2 x hx k hk').1 with g | g
          · exact hk2 g
          · omega)
      have hw2 := hw.freeze J1 (by
        intro b hb
        obtain ⟨k1, k2⟩ := post.jin b hb
        exact ⟨Nat.le_trans h.size k1, k2, fun m y hm hc => by have := (hsk.rng m y hm b hc).2.1; omega⟩)
      -- blocks that come from the callee
      have hcome : ∀ b, ((∃ n x, live objs n = some x ∧ b ∈ φL n) ∨ w.heap.size ≤ b) ∧ b < w'.heap.size ∧ ¬ J1 b → (b ∈ c.O0 ∨ c.w0.heap.size ≤ b) ∧ b < w'.heap.size ∧ ¬ (J b ∨ J1 b) ∧ ∀ m y, live (killed (nm.map (·.2)) ++ H) m = some y → b ∉ φ m := by
        rintro b ⟨k1 | k1, k2, k3⟩
        · obtain ⟨q1, q2, q3, q4⟩ := hlentIn b k1
          exact ⟨q1, k2, fun e => e.elim q3 k3, q4⟩
        · refine ⟨.inr (Nat.le_trans h.size k1), k2, ?_, fun m y hm hk => ?_⟩
          · rintro (e | e)
            · have := (h.jin b e).2; omega
            · exact k3 e
          · have := (hsk.rng m y hm b hk).2.1; omega
      have hkl : ∀ q, q ∈ nm → live (killed (nm.map (·.2)) ++ H) q.2 = none := by
        intro q hq
        rw [live_kills, if_pos (List.mem_map.2 ⟨q, hq, rfl⟩)]
      obtain ⟨φ2, g1, g2, g3⟩ := hw2.back (locL := locL) (φL := φ') hbk hn2 hn1 (fun q hq => ⟨hkl q hq, (hlocL q hq).1.symm⟩) (by
        intro q x hq hx
        obtain ⟨o1, o2, o3⟩ := post.obj q.1 x hx
        refine ⟨ObjRel_take o3 ?_ o1, o2, fun b hb => hcome b (post.objIn q.1 x hx b hb)⟩
        cases hokc : ok with
        | true =>
          left
          rintro b (hb | hb)
          · simp only [imm', hokc, if_true] at hb
            exact hb.imp id .inl
          · exact .inr (.inr hb)
        | false =>
          right
          rw [hokc, Bool.false_or, Bool.and_eq_true] at hpu
          exact back_pure hbk hpu.2 hq hx) (by
        intro q q' x y hq hq' hne hx hy
        exact post.disj q.1 q'.1 x y hne hx hy)
      have hbn : ∀ m, look (hb ++ (killed (nm.map (·.2)) ++ H)) m = none ↔ look H m = none := by
        intro m
        have hbl : ∀ {l : List (Nat × Nat)} {t : Heap}, Lev.back l r.2 = some t → look t m ≠ none → m ∈ l.map (·.2) := by
          intro l
          induction l with
          | nil => intro t e k; obtain rfl := Option.some.inj e; exact absurd rfl k
          | cons q l ih =>
            intro t e k
            obtain ⟨n, ob⟩ := q
            simp only [Lev.back] at e
            cases hl : look r.2 n with
            | none => rw [hl] at e; cases e
            | some x =>
              rw [hl] at e
              simp only [Option.bind_some] at e
              cases hr : Lev.back l r.2 with
              | none => rw [hr] at e; cases e
              | some t' =>
                rw [hr] at e
                obtain rfl := Option.some.inj e
                rw [look_cons] at k
                split at k
                · rename_i e'; simp [e']
                · have := ih hr k; simp at this ⊢; exact .inr this
        have hmem : m ∈ nm.map (·.2) → look H m ≠ none := by
          intro hm
          obtain ⟨q, hq, rfl⟩ := List.mem_map.1 hm
          obtain ⟨x, hx⟩ := hlive q hq
          rw [look_of_live hx]; simp
        rw [look_append, look_kills]
        constructor
        · intro e
          cases hl : look hb m with
          | some y => rw [hl] at e; simp at e
          | none =>
            rw [hl] at e
            split at e
            · simp at e
            · simpa using e
        · intro e
          have h1 : m ∉ nm.map (·.2) := fun k => hmem k e
          have h2 : look hb m = none := by
            by_cases k : look hb m = none
            · exact k
            · exact absurd (hbl hbk k) h1
          rw [h2, if_neg h1, e]; rfl
      have hfr' : freshAll (hb ++ (killed (nm.map (·.2)) ++ H)) (impR ok (d * 1000) r.1).2 = true := by
        unfold freshAll at hfr ⊢
        rw [List.all_eq_true] at hfr ⊢
        intro q hq
        have := hfr q hq
        simp only [freshN, Bool.and_eq_true, Option.isNone_iff_eq_none, decide_eq_true_eq] at this ⊢
        exact ⟨⟨(hbn q.1).2 this.1.1, this.1.2⟩, this.2⟩
      obtain ⟨loc3, φ3, k1, k2, k3, k4, k5⟩ := g1.adoptR (ok := ok) (imm1 := fun b => imm' b ∨ J1 b) (loc1 := locL) (by
        rintro b e (hb | hb)
        · simp only [imm', e, if_true] at hb
          exact hb.imp id .inl
        · exact .inr (.inr hb)) post.out post.nodup (by
        intro b hb
        obtain ⟨q1, q2, q3, q4⟩ := hcome b (post.fpIn b hb)
        refine ⟨q1, q2, q3, fun m y hm hk => ?_⟩
        rcases g3 m y hm with ⟨t1, t2⟩ | ⟨q, hq, t1, t2, t3⟩
        · rw [g2 m t1] at hk
          exact q4 m y t2 hk
        · rw [t3] at hk
          exact post.fpDisj q.1 y t2 b hk hb) hfr' hdi (by
        cases hokc : ok with
        | true =>
          left
          rintro b (hb | hb)
          · simp only [imm', hokc, if_true] at hb
            exact hb.imp id .inl
          · exact .inr (.inr hb)
        | false =>
          right
          rw [hokc, Bool.false_or, Bool.and_eq_true] at hpu
          exact hpu.1)
      refine ⟨_, loc3, φ3, k1.sameLook (fun m => ?_), pack1_rel k2⟩
      rw [look_append, look_append, look_append, look_append, look_kills]
      cases hl1 : look (impR ok (d * 1000) r.1).2 m with
      | some y => simp
      | none =>
        cases hl2 : look hb m with
        | some y => simp
        | none =>
          have : m ∉ nm.map (·.2) := by
            intro hm
            have hbl2 : ∀ {l : List (Nat × Nat)} {t : Heap}, Lev.back l r.2 = some t → m ∈ l.map (·.2) → look t m ≠ none := by
              intro l
              induction l with
              | nil => intro t e k; cases k
              | cons q l ih =>
                intro t e k
                obtain ⟨n, ob⟩ := q
                simp only [Lev.back] at e
                cases hl : look r.2 n with
                | none => rw [hl] at e; cases e
                | some x =>
                  rw [hl] at e
                  simp only [Option.bind_some] at e
                  cases hr : Lev.back l r.2 with
                  | none => rw [hr] at e; cases e
                  | some t' =>
                    rw [hr] at e
                    obtain rfl := Option.some.inj e
                    rw [look_cons]
                    split
                    · simp
                    · rename_i e'
                      rw [List.map_cons, List.mem_cons] at k
                      exact ih hr (k.resolve_left e')
            exact hbl2 hbk hm hl2
          rw [if_neg this]
  · cases hp
end
end Go.Lev
