/- Functions: what goes out, and a function's contract out of its run. -/
import Derived.Test.YtahjhlnhkoifhaaGreatZN
set_option linter.unusedVariables false
set_option linter.unusedSimpArgs false
namespace Go.Lev

section
variable {P : Program} {c : Ctx} {J : Nat → Prop} {loc loc0 : Nat → Loc} {φ : Nat → List Nat} {env : Env} {H : Heap} {a : Act} {w : World} {S : Sig} {imm : Nat → Prop}

theorem load_val {n : Nat} {ag : Bool} {x : LV} {v : Value} {t : TypeId} (hz : tySize P t = some n) (ha : tyAgg P t = some ag) (hn : ag = true ∨ n = 1) (hH : HRel w imm loc φ H) (hx : VRel w imm loc x v) {lv : LV} (h : evLoad n ag H x = some lv) :
    ∃ ad u, v = .pointer (some ad) ∧ (loadVar t ad).run P w = .ok u w ∧ VRel w imm loc lv u := by
  unfold evLoad at h
  split at h
  · rename_i cs
    split at h
    · rename_i hle
      simp only [VRel] at hx
      obtain ⟨b, off, cs', ty, fr, hv, him, hb, hc⟩ := hx
      have hc' := ImmC_take n hc
      obtain ⟨k1, k2⟩ := ImmC_VC (loc := loc) hc'
      have hlen := ImmC_len hc'
      have e0 : (cs.take n).length = n := by rw [List.length_take]; omega
      rw [e0] at k1 k2 hlen
      have hl : ((cs'.toList.drop off).take n).length = n := by rw [List.length_take]; omega
      have hrun := run_loadVar (P := P) (w := w) hz ha hn b off cs' ty fr hb _ rfl hl
      exact ⟨_, _, hv, hrun, val_of_cells hn (by simpa using e0) k1 k2 h⟩
    · cases h
  · rename_i m e j
    obtain ⟨y, hl, h⟩ := Option.bind_eq_some_iff.1 h
    obtain ⟨r, hr, h⟩ := Option.bind_eq_some_iff.1 h
    split at h
    · rename_i hjn
      have hobj := hH m y hl
      simp only [VRel] at hx
      generalize hloc : loc m = l at hx hobj
      cases l with
      | unk => exact hx.elim
      | dead => exact hobj.elim
      | nil =>
        have := hobj.1
        subst this
        simp at hr
      | «at» b base esz cnt sz =>
        obtain ⟨hcnt, hpos, hall, cs', ty, fps, hb, hsz, hfit, hfp, hR⟩ := hobj
        obtain ⟨f, hC⟩ := OwnR_row hall hR hr
        obtain ⟨f1, f2, _, _, hC2⟩ := OwnC_split j (by omega) hC
        obtain ⟨g1, g2, _, hC3, _⟩ := OwnC_split n (by rw [List.length_drop]; omega) hC2
        obtain ⟨k1, k2⟩ := OwnC_VC hC3
        have hlen := OwnC_len hC3
        have e0 : ((r.drop j).take n).length = n := by rw [List.length_take, List.length_drop]; omega
        rw [e0] at k1 k2 hlen
        simp only [List.drop_drop] at k1 k2 hlen
        have hl' : ((cs'.toList.drop (base + e * esz + j)).take n).length = n := by rw [List.length_take]; omega
        have hrun := run_loadVar (P := P) (w := w) hz ha hn b (base + e * esz + j) cs' ty (0, 0) hb _ rfl hl'
        exact ⟨_, _, hx, hrun, val_of_cells hn (by simpa using e0) k1 k2 h⟩
    · cases h
  · cases h

/-! ### What goes out -/
def LV.outc : LV → Bool
  | .list _ _ => true
  | v => v.plain
theorem OwnV_outc {lv : LV} (ho : lv.outc = true) {v : Value} {fp : List Nat} (h : OwnV w imm loc lv v fp) : OwnV w imm loc0 lv v fp := by
  cases lv <;> first
    | (simp only [OwnV] at h ⊢; exact h)
    | (simp [LV.outc, LV.plain] at ho)
theorem OwnC_outc : ∀ {cs : List LV} {vs : List Value} {fp : List Nat}, cs.all LV.outc = true → OwnC w imm loc cs vs fp → OwnC w imm loc0 cs vs fp
  | [], _, _, _, h => h
  | c :: cs, vs, fp, ho, h => by
    simp only [List.all_cons, Bool.and_eq_true] at ho
    simp only [OwnC] at h ⊢
    obtain ⟨v, t, f1, f2, e1, e2, h1, h2⟩ := h
    exact ⟨v, t, f1, f2, e1, e2, OwnV_outc ho.1 h1, OwnC_outc ho.2 h2⟩
theorem packC_outc : ∀ {cs : List LV} {H : Heap} {p : List LV × Heap}, packC H cs = some p → p.1.all LV.outc = true
  | [], H, p, h => by obtain rfl := Option.some.inj h; rfl
  | c :: cs, H, p, h => by
    have easy : ∀ (c' : LV) (H' h' : Heap), c'.outc = true → (packC H' cs).bind (fun p => some (c' :: p.1, h' ++ p.2)) = some p → p.1.all LV.outc = true := by
      intro c' H' h' hc' hq
      obtain ⟨q, hq1, hq2⟩ := Option.bind_eq_some_iff.1 hq
      obtain rfl := Option.some.inj hq2
      simp only [List.all_cons, hc', Bool.true_and]
      exact packC_outc hq1
    cases c
    case sl es o off len =>
      simp only [packC] at h
      obtain ⟨x, _, h⟩ := Option.bind_eq_some_iff.1 h
      split at h
      · exact easy (.arr es (vw x off len)) ((o, none) :: H) [(o, none)] rfl h
      · cases h
    case list es xs => exact easy (.list es xs) H [] rfl (by simpa only [packC, List.nil_append] using h)
    case nil es => exact easy (.arr es []) H [] rfl (by simpa only [packC, List.nil_append] using h)
    all_goals
      simp only [packC, LV.plain, if_true, if_false, Bool.false_eq_true] at h
      first
        | (cases h; done)
        | exact easy _ H [] rfl (by simpa only [List.nil_append] using h)

theorem VRel_one {lv : LV} {v : Value} (h : VRel w imm loc lv v) (hne : lv ≠ .undef) (hna : ∀ cs, lv ≠ .agg cs) (hnt : ∀ cs, lv ≠ .tup cs) (hnf : ∀ f cs, lv ≠ .fn f cs) : v.oneCell' = true := by
  cases lv <;> simp only [VRel] at h
  case undef => exact absurd rfl hne
  case agg cs => exact absurd rfl (hna cs)
  case tup cs => exact absurd rfl (hnt cs)
  case fn f cs => exact absurd rfl (hnf f cs)
  case nil => subst h; rfl
  case int => subst h; rfl
  case bool => subst h; rfl
  case str => subst h; rfl
  case list es xs => exact ImmV_one h
  case sl => exact SlRel_one h
  case ptr => exact PtrRel_one h
  case pimm =>
    obtain ⟨b, off, cs', ty, fr, rfl, _⟩ := h
    rfl

theorem outV_rel (hh : HOk w imm loc φ H) {lv : LV} {v : Value} (hv : VRel w imm loc lv v) {p : LV × Heap} (hp : outV H lv = some p) :
    ∃ ns fp, p.2 = killed ns ∧ OutV w imm loc0 p.1 v fp ∧ fp.Nodup ∧ ∀ b, b ∈ fp → ∃ o x, o ∈ ns ∧ live H o = some x ∧ b ∈ φ o := by
  have one : (∀ cs, lv ≠ .agg cs) → ∀ q, packC H [lv] = some q → (match q.1 with | [v'] => some (v', q.2) | _ => none) = some p → lv ≠ .undef → (∀ cs, lv ≠ .tup cs) → (∀ f cs, lv ≠ .fn f cs) →
      ∃ ns fp, p.2 = killed ns ∧ OutV w imm loc0 p.1 v fp ∧ fp.Nodup ∧ ∀ b, b ∈ fp → ∃ o x, o ∈ ns ∧ live H o = some x ∧ b ∈ φ o := by
    intro hna q hq hm hnu hnt hnf
    have h1 := VRel_one hv hnu hna hnt hnf
    obtain ⟨ns, fp, e1, e2, e3, e4, e5, e6⟩ := packC_rel hh (cs := [lv]) (vs := [v]) (by simp only [VC]; exact ⟨v, [], rfl, hv, rfl⟩) (by simpa using h1) hq
    have ho := packC_outc hq
    obtain ⟨q1, q2⟩ := q
    simp only at hm e1 e2 e5 ho
    split at hm
    · rename_i v'
      obtain rfl := Option.some.inj hm
      refine ⟨ns, fp, e1, ?_, e3, e4⟩
      simp only [OwnC] at e2
      obtain ⟨v1, t, f1, f2, hvt, rfl, hown, rfl⟩ := e2
      obtain ⟨rfl, _⟩ := List.cons.inj hvt
      simp only [List.all_cons, List.all_nil, Bool.and_true] at ho
      rw [List.append_nil]
      have := OwnV_outc (loc0 := loc0) ho hown
      unfold OutV
      cases v' <;> first | exact this | (simp [LV.outc, LV.plain] at ho)
    · cases hm
  cases lv
  case undef => simp only [outV] at hp; cases hp
  case agg cs =>
    simp only [outV] at hp
    obtain ⟨q, hq, hp⟩ := Option.bind_eq_some_iff.1 hp
    obtain rfl := Option.some.inj hp
    simp only [VRel] at hv
    obtain ⟨vs, rfl, h1, h2⟩ := hv
    obtain ⟨ns, fp, e1, e2, e3, e4, e5, e6⟩ := packC_rel hh h2 h1 hq
    refine ⟨ns, fp, e1, ?_, e3, e4⟩
    have := VC_len h2
    simp only [OutV]
    exact ⟨vs, rfl, by omega, OwnC_outc (packC_outc hq) e2⟩
  case tup cs =>
    simp only [outV, packC, LV.plain] at hp
    cases hp
  case fn f cs =>
    simp only [outV, packC, LV.plain] at hp
    cases hp
  all_goals
    simp only [outV] at hp
    obtain ⟨q, hq, hp⟩ := Option.bind_eq_some_iff.1 hp
    exact one (by intros; simp) q hq hp (by simp) (by intros; simp) (by intros; simp)

def chkRes (P : Program) : List LRes → List ResultVar → Bool
  | [], [] => true
  | .t s :: rs, .tmp t :: us => decide (s = t) && chkRes P rs us
  | .cell s n ag :: rs, .cell t ty :: us => decide (s = t) && decide (tySize P ty = some n) && decide (tyAgg P ty = some ag) && (ag || decide (n = 1)) && chkRes P rs us
  | _, _ => false

def resOne (a : Act) : ResultVar → Sem Value
  | .tmp t => pure (a.tmps.getD t undef)
  | .cell s t => do loadVar t (← asAddr (a.tmps.getD s undef))

theorem outs_rel {s : St} (h : SRx c J loc φ s.env s.heap a w) : ∀ {rs : List LRes} {us : List ResultVar} {H' : Heap} {q : List LV × Heap}, (∀ n x, live H' n = some x → live s.heap n = some x) → chkRes P rs us = true → outs s H' rs = some q →
    ∃ vs fp ns, (us.mapM (resOne a)).run P w = .ok vs w ∧ q.2 = killed ns ++ H' ∧ OutL w (Im c J) loc0 q.1 vs fp ∧ fp.Nodup ∧ ∀ b, b ∈ fp → ∃ o x, o ∈ ns ∧ live H' o = some x ∧ b ∈ φ o
  | [], [], H', q, hs, _, ho => by
    obtain rfl := Option.some.inj ho
    exact ⟨[], [], [], by simp, rfl, by simp [OutL], List.nodup_nil, fun b hb => by cases hb⟩
  | [], _ :: _, _, _, _, hc, _ => by simp [chkRes] at hc
  | .t _ :: _, [], _, _, _, hc, _ => by simp [chkRes] at hc
  | .cell _ _ _ :: _, [], _, _, _, hc, _ => by simp [chkRes] at hc
  | r :: rs, u :: us, H', q, hs, hc, ho => by
    simp only [outs] at ho
    obtain ⟨v, hv, ho⟩ := Option.bind_eq_some_iff.1 ho
    obtain ⟨p, hp, ho⟩ := Option.bind_eq_some_iff.1 ho
    obtain ⟨q', hq', ho⟩ := Option.bind_eq_some_iff.1 ho
    obtain rfl := Option.some.inj ho
    have one : ∃ x, (resOne a u).run P w = .ok x w ∧ VRel w (Im c J) loc v x ∧ chkRes P rs us = true := by
      cases r with
      | t n =>
        cases u with
        | tmp t =>
          simp only [chkRes, Bool.and_eq_true, decide_eq_true_eq] at hc
          obtain ⟨rfl, hc⟩ := hc
          exact ⟨_, rfl, h.env n v hv, hc⟩
        | cell t ty => simp [chkRes] at hc
      | cell n k ag =>
        cases u with
        | tmp t => simp [chkRes] at hc
        | cell t ty =>
          simp only [chkRes, Bool.and_eq_true, decide_eq_true_eq, Bool.or_eq_true] at hc
          obtain ⟨⟨⟨⟨rfl, h1⟩, h2⟩, h3⟩, hc⟩ := hc
          simp only [resVal] at hv
          have hx : VRel w (Im c J) loc ((look s.env n).getD .undef) (a.tmps.getD n undef) := by
            cases hl : look s.env n with
            | none => simp only [Option.getD_none, VRel]
            | some lv => exact h.env n lv hl
          obtain ⟨ad, x, e1, e2, e3⟩ := load_val h1 h2 h3 h.obj hx hv
          refine ⟨x, ?_, e3, hc⟩
          simp only [resOne, e1, asAddr, Sem.run_bind, Sem.run_pure, Result.andThen_ok, e2]
    obtain ⟨x, hx1, hx2, hc'⟩ := one
    have hh : HOk w (Im c J) loc φ H' := h.hok.sub hs
    obtain ⟨ns1, f1, e1, e2, e3, e4⟩ := outV_rel (loc0 := loc0) hh hx2 hp
    rw [e1] at hq'
    obtain ⟨vs, f2, ns2, g1, g2, g3, g4, g5⟩ := outs_rel h (H' := killed ns1 ++ H') (fun n x hn => hs n x (live_of_kills hn).2) hc' hq'
    refine ⟨x :: vs, f1 ++ f2, ns2 ++ ns1, ?_, ?_, ?_, ?_, ?_⟩
    · rw [List.mapM_cons]
      simp only [Sem.run_bind, hx1, Result.andThen_ok, g1, Sem.run_pure]
    · rw [g2]
      simp [killed]
    · simp only [OutL]
      exact ⟨x, vs, f1, f2, rfl, rfl, e2, g3⟩
    · rw [List.nodup_append]
      refine ⟨e3, g4, ?_⟩
      rintro b hb b' hb' rfl
      obtain ⟨o, x1, h1, h2, h3⟩ := e4 b hb
      obtain ⟨o', x2, h1', h2', h3'⟩ := g5 b hb'
      obtain ⟨k1, k2⟩ := live_of_kills h2'
      exact h.disj o o' x1 x2 (fun e => k1 (e ▸ h1)) (hs o x1 h2) (hs o' x2 k2) b h3 h3'
    · intro b hb
      rcases List.mem_append.1 hb with hb | hb
      · obtain ⟨o, x1, h1, h2, h3⟩ := e4 b hb
        exact ⟨o, x1, by simp [h1], h2, h3⟩
      · obtain ⟨o', x2, h1', h2', h3'⟩ := g5 b hb
        exact ⟨o', x2, by simp [h1'], (live_of_kills h2').2, h3'⟩

theorem fin_spec : ∀ {ns : List Nat} {h : Heap}, fin H ns = some h → (∀ n, look h n ≠ none → n ∈ ns) ∧ ∀ n x, live h n = some x → live H n = some x ∧ rowsPlain x = true
  | [], h, hf => by
    obtain rfl := Option.some.inj hf
    exact ⟨fun n hn => absurd rfl hn, fun n x hn => by simp [live, look] at hn⟩
  | n :: r, h, hf => by
    simp only [fin] at hf
    obtain ⟨x, hx, hf⟩ := Option.bind_eq_some_iff.1 hf
    obtain ⟨t, ht, hf⟩ := Option.bind_eq_some_iff.1 hf
    obtain ⟨i1, i2⟩ := fin_spec ht
    cases x with
    | none =>
      obtain rfl := Option.some.inj hf
      refine ⟨fun m hm => ?_, fun m y hm => ?_⟩
      · rw [look_cons] at hm
        split at hm
        · rename_i e; simp [e]
        · exact List.mem_cons_of_mem _ (i1 m hm)
      · rw [live_cons] at hm
        split at hm
        · cases hm
        · exact i2 m y hm
    | some y0 =>
      simp only at hf
      split at hf
      · rename_i hp
        obtain rfl := Option.some.inj hf
        refine ⟨fun m hm => ?_, fun m y hm => ?_⟩
        · rw [look_cons] at hm
          split at hm
          · rename_i e; simp [e]
          · exact List.mem_cons_of_mem _ (i1 m hm)
        · rw [live_cons] at hm
          split at hm
          · rename_i e
            obtain rfl := Option.some.inj hm
            subst e
            exact ⟨by unfold live; rw [hx]; rfl, hp⟩
          · exact i2 m y hm
      · cases hf

theorem look_map_fst : ∀ {objs : Heap} {n : Nat}, n ∈ objs.map (·.1) → look objs n ≠ none
  | [], n, h => by cases h
  | (k, v) :: objs, n, h => by
    rw [look_cons]
    split
    · simp
    · rename_i e
      simp only [List.map_cons, List.mem_cons] at h
      exact look_map_fst (h.resolve_left e)

def chkFn (P : Program) (fn : Func) (lf : LFun) : Bool :=
  (match fn.body with
    | some code => chkC P (lf.np + (fn.ntmps - lf.np)) lf.code code
    | none => false) && !(fn.name == "runtime.NumGoroutine") && chkRes P lf.res fn.results.toList

theorem enum_rel : ∀ {args : List LV} {vs : List Value} {i s : Nat} {lv : LV}, VC w imm loc args vs → look (enumL i args) s = some lv → ∃ k v, s = i + k ∧ vs[k]? = some v ∧ VRel w imm loc lv v
  | [], _, _, _, _, _, h => by simp [enumL, look] at h
  | c :: cs, vs, i, s, lv, hv, h => by
    simp only [VC] at hv
    obtain ⟨v, t, rfl, h1, h2⟩ := hv
    simp only [enumL, look_cons] at h
    split at h
    · rename_i e
      obtain rfl := Option.some.inj h
      exact ⟨0, v, by omega, rfl, h1⟩
    · obtain ⟨k, u, e1, e2, e3⟩ := enum_rel h2 h
      exact ⟨k + 1, u, by omega, by simpa using e2, e3⟩

/-- A function's contract, out of its code's. -/
theorem fun_gen {f : FuncId} {fn : Func} {code : Code} {res : List LRes} {np : Nat} (hf : P.funcs[f]? = some fn) (hb : fn.body = some code) (hname : (fn.name == "runtime.NumGoroutine") = false) (hres : chkRes P res fn.results.toList = true) {args : List LV} {objs : Heap} {s' : St} {r : List LV × Heap} (hnp : args.length = np)
    (hr' : (outs s' s'.heap res).bind (fun q => (fin q.2 (objs.map (·.1))).bind fun h => some (q.1, h)) = some r)
    (hw : ∀ (c : Ctx) (a : Act) (w : World) (Q : Exit → Act → World → Prop), c.nt = np + (fn.ntmps - np) → SR c (enumL 0 args) objs a w → (∀ a' w', SR c s'.env s'.heap a' w' → Q .normal a' w' ∧ Q .ret a' w') → code.wp P Q a w) : Snd P f args objs r.1 r.2 := by
    refine ⟨⟨fn, hf, by rw [hb]; rfl, hname⟩, ?_⟩
    intro w vs imm loc φ himm hL hargs
    · have hvl : vs.length = args.length := VC_len hargs
      have hO : ∀ b, b ∈ (objs.flatMap fun p => match live objs p.1 with | some _ => φ p.1 | none => []) ↔ ∃ n x, live objs n = some x ∧ b ∈ φ n := by
        intro b
        simp only [List.mem_flatMap]
        constructor
        · rintro ⟨p, hp, hb⟩
          cases hl : live objs p.1 with
          | none => rw [hl] at hb; cases hb
          | some x => rw [hl] at hb; exact ⟨p.1, x, hl, hb⟩
        · rintro ⟨n, x, hl, hb⟩
          refine ⟨(n, some x), mem_of_look (look_of_live hl), ?_⟩
          simp only [hl]
          exact hb
      let c : Ctx := ⟨w, np + (fn.ntmps - np), objs.flatMap fun p => match live objs p.1 with | some _ => φ p.1 | none => [], imm, loc,
        fun b hb => ⟨himm b hb, fun hk => by obtain ⟨n, x, h1, h2⟩ := (hO b).1 hk; exact (hL.lt n x h1 b h2).2 hb⟩, fun b hk => by obtain ⟨n, x, h1, h2⟩ := (hO b).1 hk; exact (hL.lt n x h1 b h2).1⟩
      have hO' : ∀ b, b ∈ c.O0 ↔ ∃ n x, live objs n = some x ∧ b ∈ φ n := hO
      have hIm : Im c (fun _ => False) = imm := by
        funext b
        exact propext ⟨fun h => h.elim id False.elim, .inl⟩
      have h0 : SRx c (fun _ => False) loc φ (enumL 0 args) objs { tmps := vs.toArray ++ Array.replicate (fn.ntmps - vs.toArray.size) undef, defers := [] } w := by
        refine ⟨rfl, rfl, rfl, Nat.le_refl _, fun _ _ _ => rfl, fun b hb => hb.elim, ?_, ?_, hL.nodup, hL.disj, ?_, ?_, rfl, hL.nodead, fun n hn _ => hL.unk n hn, fun n hn => rfl⟩
        · rw [hIm]; exact hL.obj
        · intro n x hn b hb
          exact ⟨.inl ((hO' b).2 ⟨n, x, hn, hb⟩), (hL.lt n x hn b hb).1, fun h => h⟩
        · rw [hIm]
          intro s v hs
          obtain ⟨k, u, e1, e2, e3⟩ := enum_rel hargs hs
          have hk : k < vs.length := (List.getElem?_eq_some_iff.1 e2).1
          have : (vs.toArray ++ Array.replicate (fn.ntmps - vs.toArray.size) undef).getD s undef = u := by
            rw [Array.getD_eq_getD_getElem?, Array.getElem?_append_left (by simpa [e1] using hk)]
            simp [e1, e2]
          simp only
          rw [this]
          exact e3
        · show (vs.toArray ++ Array.replicate (fn.ntmps - vs.toArray.size) undef).size = np + (fn.ntmps - np)
          simp [hvl, hnp]
      have hpost : ∀ a' w', SR c s'.env s'.heap a' w' → bodyPost P fn (fun e w' => ∃ rs J φ' fp, e = .returned (packV rs) ∧ SndPost w imm loc φ objs r.1 r.2 rs J φ' fp w') .normal a' w' := by
        rintro a' w' ⟨J, loc', φ', hx⟩
        obtain ⟨q, hq, hr'⟩ := Option.bind_eq_some_iff.1 hr'
        obtain ⟨h', hh', hr'⟩ := Option.bind_eq_some_iff.1 hr'
        obtain rfl := Option.some.inj hr'
        obtain ⟨rs, fp, ns, g1, g2, g3, g4, g5⟩ := outs_rel (loc0 := loc) hx (fun _ _ k => k) hres hq
        obtain ⟨i1, i2⟩ := fin_spec hh'
        rw [g2] at i2
        have i3 : ∀ n x, live h' n = some x → n ∉ ns ∧ live s'.heap n = some x ∧ rowsPlain x = true ∧ 900000 ≤ n ∧ loc' n = loc n := by
          intro n x hn
          obtain ⟨k1, k2⟩ := i2 n x hn
          obtain ⟨k3, k4⟩ := live_of_kills k1
          have hn9 : 900000 ≤ n := by
            have := look_map_fst (i1 n (by rw [look_of_live hn]; simp))
            cases ho : look objs n with
            | none => exact absurd ho this
            | some y => 
              cases y with
              | none => exact hL.names n _ ho
              | some z => exact hL.names n _ ho
          exact ⟨k3, k4, k2, hn9, hx.lent n hn9⟩
        refine ⟨hx.df, packV rs, ?_, rs, J, φ', fp, rfl, ⟨hx.os, hx.tape, hx.output, hx.size, ?_, hx.jin, g3, g4, ?_, ?_, ?_, ?_, ?_, ?_⟩⟩
        · have : (fn.results.mapM (resOne a')).run P w' = .ok rs.toArray w' := by
            rw [Array.mapM_eq_mapM_toList, map_eq_pure_bind]
            simp only [Sem.run_bind, g1, Result.andThen_ok, Sem.run_pure]
          have e : results fn a'.tmps = (fn.results.mapM (resOne a') >>= fun vs => pure (if h : vs.size = 1 then vs[0] else .tuple vs)) := by
            unfold results
            congr 1
          rw [e]
          simp only [Sem.run_bind, this, Result.andThen_ok, Sem.run_pure]
          congr 1
          unfold packV
          match rs with
          | [] => rfl
          | [v] => rfl
          | _ :: _ :: _ => simp
        · intro b hb hno
          refine hx.old b hb (fun hk => ?_)
          obtain ⟨n, x, h1, h2⟩ := (hO' b).1 hk
          exact hno n x h1 h2
        · intro n x hn
          obtain ⟨k1, k2, k3, k4, k5⟩ := i3 n x hn
          rw [← k5]
          exact ⟨ObjRel_plain k3 (hx.obj n x k2), hx.nodup n x k2, k3⟩
        · intro n hn
          exact look_map_fst (i1 n hn)
        · intro b hb
          obtain ⟨o, x, h1, h2, h3⟩ := g5 b hb
          obtain ⟨k1, k2, k3⟩ := hx.rng o x h2 b h3
          exact ⟨k1.imp (fun k => (hO' b).1 k) id, k2, k3⟩
        · intro n x hn b hb
          obtain ⟨k1, k2, k3, k4, k5⟩ := i3 n x hn
          obtain ⟨j1, j2, j3⟩ := hx.rng n x k2 b hb
          exact ⟨j1.imp (fun k => (hO' b).1 k) id, j2, j3⟩
        · intro n x hn b hb hfp
          obtain ⟨k1, k2, k3, k4, k5⟩ := i3 n x hn
          obtain ⟨o, y, h1, h2, h3⟩ := g5 b hfp
          exact hx.disj n o x y (fun e => k1 (e ▸ h1)) k2 h2 b hb h3
        · intro n m x y hne hn hm b hb
          obtain ⟨k1, k2, _⟩ := i3 n x hn
          obtain ⟨j1, j2, _⟩ := i3 m y hm
          exact hx.disj n m x y hne k2 j2 b hb
      exact calls_of_wp hf hb (hw c _ w _ rfl h0.sr (fun a' w' hs => ⟨hpost a' w' hs, hpost a' w' hs⟩))

/-- A function's contract. -/
theorem fun_ok (hS : SigOk P S) (hm : P.follows .mixedOrders = true) {f : FuncId} {fn : Func} {lf : LFun} (hf : P.funcs[f]? = some fn) (hc : chkFn P fn lf = true) {args : List LV} {objs : Heap} {r : List LV × Heap} (hr : runF S lf args objs = some r) : Snd P f args objs r.1 r.2 := by
  unfold chkFn at hc
  simp only [Bool.and_eq_true, Bool.not_eq_true'] at hc
  obtain ⟨⟨hcode, hname⟩, hres⟩ := hc
  cases hb : fn.body with
  | none => rw [hb] at hcode; cases hcode
  | some code =>
    rw [hb] at hcode
    simp only at hcode
    unfold runF at hr
    split at hr
    · rename_i hnp
      obtain ⟨⟨e, s'⟩, hrun, hr⟩ := Option.bind_eq_some_iff.1 hr
      refine fun_gen (s' := s') (np := lf.np) (res := lf.res) hf hb hname hres hnp ?_ ?_
      · cases e with
        | normal => exact hr
        | ret => exact hr
        | exit i => cases hr
      · intro c a w Q hnt h0 hQ
        rw [← hnt] at hcode
        refine code_ok (c := c) hS hm lf.code code hcode hrun h0 (fun a' w' hs => ?_)
        cases e with
        | normal => exact (hQ a' w' hs).1
        | ret => exact (hQ a' w' hs).2
        | exit i => cases hr
    · cases hr
end
end Go.Lev
