/- Code: each construct of the language, run by the machine as by the logical interpreter. -/
import Derived.Test.YtahjhlnhkoifhaaGreatZM5
set_option linter.unusedVariables false
set_option linter.unusedSimpArgs false
namespace Go.Lev

theorem wp_loop_n {P : Program} {Q : Exit → Act → World → Prop} {c : Code} (I : Nat → Act → World → Prop) (round : ∀ n a w, I n a w → c.wp P (Exit.then (fun a' w' => ∃ m, m < n ∧ I m a' w') Q) a w) {n : Nat} {a : Act} {w : World} (h₀ : I n a w) : (Code.loop c).wp P Q a w := by
  intro b k cs
  have key : ∀ n a w, I n a w → ∃ e a' w', Q e a' w' ∧ Arrives P (lone (b.at a (.code c :: .inLoop c :: k)) cs w) b k cs e a' w' := by
    intro n
    induction n using Nat.strongRecOn with
    | _ n ih =>
      intro a w hI
      obtain ⟨e, a₁, w₁, hq, harr⟩ := round n a w hI b (.inLoop c :: k) cs
      cases e with
      | normal =>
        obtain ⟨m, hlt, hI₁⟩ := hq
        obtain ⟨e₂, a₂, w₂, hq₂, harr₂⟩ := ih m hlt a₁ w₁ hI₁
        exact ⟨e₂, a₂, w₂, hq₂, .of_steps (Steps.trans harr (.one step_inLoop)) harr₂⟩
      | exit id => exact ⟨_, a₁, w₁, hq, .pass (x := .inLoop c) rfl (fun _ _ => .inl (by simp)) harr⟩
      | goto l => exact ⟨_, a₁, w₁, hq, .pass (x := .inLoop c) rfl (fun _ _ => .inl (by simp)) harr⟩
      | ret => exact ⟨_, a₁, w₁, hq, .pass (x := .inLoop c) rfl (fun _ _ => .inl (by simp)) harr⟩
      | panic ch => exact ⟨_, a₁, w₁, hq, .pass (x := .inLoop c) rfl (fun _ _ => .inl (by simp)) harr⟩
      | outgrown => exact ⟨_, a₁, w₁, hq, .pass (x := .inLoop c) rfl (fun _ _ => .inl (by simp)) harr⟩
  obtain ⟨e, a', w', hq, harr⟩ := key n a w h₀
  exact ⟨e, a', w', hq, .of_steps (.one step_loop) harr⟩

section
variable {P : Program} {c : Ctx} {J : Nat → Prop} {loc : Nat → Loc} {φ : Nat → List Nat} {env : Env} {H : Heap} {a : Act} {w : World} {S : Sig}

/-! ### Names anew -/
theorem ren0_V {imm : Nat → Prop} {loc' : Nat → Loc} {os : List (Nat × Nat)} (hl : ∀ o n, look os o = some n → loc' n = loc o) {lv : LV} {v : Value} (h : VRel w imm loc lv v) : VRel w imm loc' (ren0 os lv) v := by
  cases lv <;> simp only [ren0]
  case sl es o off len =>
    cases hk : look os o with
    | none => trivial
    | some n =>
      simp only [VRel] at h ⊢
      rw [hl o n hk]
      exact h
  case ptr o e j =>
    cases hk : look os o with
    | none => trivial
    | some n =>
      simp only [VRel] at h ⊢
      rw [hl o n hk]
      exact h
  case arr => simp only [VRel] at h
  all_goals first
    | (simp only [VRel] at h ⊢; exact h)
    | (simp only [VRel])
theorem ren0_VC {imm : Nat → Prop} {loc' : Nat → Loc} {os : List (Nat × Nat)} (hl : ∀ o n, look os o = some n → loc' n = loc o) : ∀ {cs : List LV} {vs : List Value}, VC w imm loc cs vs → VC w imm loc' (cs.map (ren0 os)) vs
  | [], _, h => h
  | c :: cs, vs, h => by
    simp only [VC] at h
    obtain ⟨v, t, rfl, h1, h2⟩ := h
    simp only [List.map_cons, VC]
    exact ⟨v, t, rfl, ren0_V hl h1, ren0_VC hl h2⟩
theorem ren_V {imm : Nat → Prop} {loc' : Nat → Loc} {os : List (Nat × Nat)} (hl : ∀ o n, look os o = some n → loc' n = loc o) {lv : LV} {v : Value} (h : VRel w imm loc lv v) : VRel w imm loc' (ren os lv) v := by
  cases lv with
  | agg cs =>
    simp only [ren, VRel] at h ⊢
    obtain ⟨vs, rfl, h1, h2⟩ := h
    exact ⟨vs, rfl, h1, ren0_VC hl h2⟩
  | fn f cs =>
    simp only [ren, VRel] at h ⊢
    obtain ⟨vs, rfl, h2⟩ := h
    exact ⟨vs, rfl, ren0_VC hl h2⟩
  | _ => exact ren0_V hl h
theorem ren0_Own {imm : Nat → Prop} {loc' : Nat → Loc} {os : List (Nat × Nat)} (hl : ∀ o n, look os o = some n → loc' n = loc o) {lv : LV} {v : Value} {fp : List Nat} (h : OwnV w imm loc lv v fp) : OwnV w imm loc' (ren0 os lv) v fp := by
  have one := OwnV_one h
  cases lv <;> simp only [ren0]
  case sl es o off len =>
    simp only [OwnV] at h
    cases hk : look os o with
    | none => simp only [OwnV]; exact ⟨one, h.2⟩
    | some n =>
      simp only [OwnV]
      rw [hl o n hk]
      exact h
  case ptr o e j =>
    simp only [OwnV] at h
    cases hk : look os o with
    | none => simp only [OwnV]; exact ⟨one, h.2⟩
    | some n =>
      simp only [OwnV]
      rw [hl o n hk]
      exact h
  case pimm => simp only [OwnV] at h ⊢; first | exact h | exact ⟨one, h.2⟩
  all_goals (simp only [OwnV] at h ⊢; exact h)
theorem ren0_OwnC {imm : Nat → Prop} {loc' : Nat → Loc} {os : List (Nat × Nat)} (hl : ∀ o n, look os o = some n → loc' n = loc o) : ∀ {cs : List LV} {vs : List Value} {fp : List Nat}, OwnC w imm loc cs vs fp → OwnC w imm loc' (cs.map (ren0 os)) vs fp
  | [], _, _, h => h
  | c :: cs, vs, fp, h => by
    simp only [OwnC] at h
    obtain ⟨v, t, f1, f2, rfl, rfl, h1, h2⟩ := h
    simp only [List.map_cons, OwnC]
    exact ⟨v, t, f1, f2, rfl, rfl, ren0_Own hl h1, ren0_OwnC hl h2⟩
theorem ren0_OwnR {imm : Nat → Prop} {loc' : Nat → Loc} {os : List (Nat × Nat)} (hl : ∀ o n, look os o = some n → loc' n = loc o) : ∀ {xs : Rows} {vs : List Value} {fp : List Nat}, OwnR w imm loc xs vs fp → OwnR w imm loc' (xs.map (·.map (ren0 os))) vs fp
  | [], _, _, h => h
  | r :: rs, vs, fp, h => by
    simp only [OwnR] at h
    obtain ⟨f1, f2, rfl, h1, h2⟩ := h
    simp only [List.map_cons, OwnR, List.length_map]
    exact ⟨f1, f2, rfl, ren0_OwnC hl h1, ren0_OwnR hl h2⟩
theorem ren0_Obj {imm : Nat → Prop} {loc' : Nat → Loc} {os : List (Nat × Nat)} (hl : ∀ o n, look os o = some n → loc' n = loc o) {x : Rows} {l : Loc} {fp : List Nat} (h : ObjRel w imm loc x l fp) : ObjRel w imm loc' (if rowsPlain x then x else x.map (·.map (ren0 os))) l fp := by
  split
  · rename_i hp
    exact ObjRel_plain hp h
  · unfold ObjRel at *
    cases l with
    | unk => exact h
    | dead => exact h
    | nil => exact ⟨by rw [h.1]; rfl, h.2⟩
    | «at» b base esz n sz =>
      obtain ⟨hn, h0, hall, cs, ty, fps, hb, hsz, hle, hfp, hR⟩ := h
      refine ⟨by simpa using hn, h0, ?_, cs, ty, fps, hb, hsz, hle, hfp, ren0_OwnR hl hR⟩
      intro r hr
      obtain ⟨r', hr', rfl⟩ := List.mem_map.1 hr
      rw [List.length_map]
      exact hall r' hr'

theorem distinct_look : ∀ {os : List (Nat × Nat)}, distinct (os.map (·.2)) = true → ∀ o n, (o, n) ∈ os → look (os.map fun p => (p.2, p.1)) n = some o
  | [], _, o, n, h => by cases h
  | (o0, n0) :: os, hd, o, n, h => by
    simp only [List.map_cons, distinct, Bool.and_eq_true, Bool.not_eq_true', List.contains_eq_mem, decide_eq_false_iff_not, List.mem_map] at hd
    simp only [List.map_cons, look_cons]
    rcases List.mem_cons.1 h with e | h'
    · obtain ⟨rfl, rfl⟩ := Prod.mk.inj e
      rw [if_pos rfl]
    · rw [if_neg]
      · exact distinct_look hd.2 o n h'
      · rintro rfl
        exact hd.1 ⟨(o, n), h', rfl⟩
theorem mem_of_look {α : Type} : ∀ {os : List (Nat × α)} {o : Nat} {n : α}, look os o = some n → (o, n) ∈ os
  | [], _, _, h => by simp [look] at h
  | (o0, n0) :: os, o, n, h => by
    rw [look_cons] at h
    split at h
    · rename_i e
      obtain rfl := Option.some.inj h
      subst e
      simp
    · exact List.mem_cons_of_mem _ (mem_of_look h)
theorem keepH_spec {os0 : List (Nat × Nat)} : ∀ {os : List (Nat × Nat)} {h : Heap}, keepH os0 H os = some h →
    (∀ n, look h n = none → look (os.map fun p => (p.2, p.1)) n = none) ∧ ∀ n y, live h n = some y → ∃ o x, look (os.map fun p => (p.2, p.1)) n = some o ∧ live H o = some x ∧ y = (if rowsPlain x then x else x.map (·.map (ren0 os0)))
  | [], h, hk => by
    obtain rfl := Option.some.inj hk
    exact ⟨fun _ _ => rfl, fun n y hn => by simp [live, look] at hn⟩
  | (o, n) :: os, h, hk => by
    simp only [keepH] at hk
    obtain ⟨x, hx, hk⟩ := Option.bind_eq_some_iff.1 hk
    obtain ⟨t, ht, hk⟩ := Option.bind_eq_some_iff.1 hk
    obtain rfl := Option.some.inj hk
    obtain ⟨i1, i2⟩ := keepH_spec ht
    refine ⟨fun m hm => ?_, fun m y hm => ?_⟩
    · simp only [List.map_cons, look_cons] at hm ⊢
      split at hm
      · cases hm
      · rename_i e
        rw [if_neg e]
        exact i1 m hm
    · rw [live_cons] at hm
      simp only [List.map_cons, look_cons]
      split at hm
      · rename_i e
        rw [if_pos e]
        exact ⟨o, x, rfl, hx, (Option.some.inj hm).symm⟩
      · rename_i e
        rw [if_neg e]
        exact i2 m y hm

theorem SRx.keep (h : SRx c J loc φ env H a w) {ss : List Nat} {os : List (Nat × Nat)} {h' : Heap} (hd2 : distinct (os.map (·.2)) = true) (hd1 : distinct (os.map (·.1)) = true) (hr : (os.all fun p => decide (p.1 = p.2) || (decide (p.1 < 900000) && decide (p.2 < 900000))) = true) (hk : keepH os H os = some h') : SR c (keepE os env ss) h' a w := by
  obtain ⟨k1, k2⟩ := keepH_spec hk
  have hinj : ∀ n m o, look (os.map fun p => (p.2, p.1)) n = some o → look (os.map fun p => (p.2, p.1)) m = some o → n = m := by
    intro n m o hn hm
    have e1 := mem_of_look hn
    have e2 := mem_of_look hm
    simp only [List.mem_map] at e1 e2
    obtain ⟨p, hp, e1⟩ := e1
    obtain ⟨q, hq, e2⟩ := e2
    obtain ⟨rfl, rfl⟩ := Prod.mk.inj e1
    obtain ⟨rfl, e3⟩ := Prod.mk.inj e2
    have f1 := distinct_look (os := os.map fun p => (p.2, p.1)) (by simpa [List.map_map, Function.comp_def] using hd1) p.2 p.1 (List.mem_map.2 ⟨p, hp, rfl⟩)
    have f2 := distinct_look (os := os.map fun p => (p.2, p.1)) (by simpa [List.map_map, Function.comp_def] using hd1) q.2 q.1 (List.mem_map.2 ⟨q, hq, rfl⟩)
    rw [e3, f1] at f2
    exact Option.some.inj f2
  obtain ⟨loc', hloc'⟩ : ∃ loc' : Nat → Loc, ∀ n, loc' n = match look (os.map fun p => (p.2, p.1)) n with
    | some o => loc o
    | none => if n < 900000 then .unk else loc n := ⟨_, fun _ => rfl⟩
  obtain ⟨φ', hφ'⟩ : ∃ φ' : Nat → List Nat, ∀ n, φ' n = match look (os.map fun p => (p.2, p.1)) n with
    | some o => φ o
    | none => [] := ⟨_, fun _ => rfl⟩
  have hl : ∀ o n, look os o = some n → loc' n = loc o := by
    intro o n ho
    rw [hloc', distinct_look hd2 o n (mem_of_look ho)]
  have hlv : ∀ n y, live h' n = some y → ∃ o x, look (os.map fun p => (p.2, p.1)) n = some o ∧ live H o = some x ∧ y = (if rowsPlain x then x else x.map (·.map (ren0 os))) ∧ loc' n = loc o ∧ φ' n = φ o := by
    intro n y hn
    obtain ⟨o, x, e1, e2, e3⟩ := k2 n y hn
    exact ⟨o, x, e1, e2, e3, by rw [hloc', e1], by rw [hφ', e1]⟩
  refine ⟨J, loc', φ', { h with obj := ?_, rng := ?_, nodup := ?_, disj := ?_, env := ?_, nodead := ?_, unk := ?_, lent := ?_ }⟩
  · intro n y hn
    obtain ⟨o, x, e1, e2, rfl, e4, e5⟩ := hlv n y hn
    rw [e4, e5]
    exact ren0_Obj hl (h.obj o x e2)
  · intro n y hn b hb
    obtain ⟨o, x, e1, e2, e3, e4, e5⟩ := hlv n y hn
    rw [e5] at hb
    exact h.rng o x e2 b hb
  · intro n y hn
    obtain ⟨o, x, e1, e2, e3, e4, e5⟩ := hlv n y hn
    rw [e5]
    exact h.nodup o x e2
  · intro n m y z hne hn hm b hb
    obtain ⟨o, x, e1, e2, e3, e4, e5⟩ := hlv n y hn
    obtain ⟨o', x', e1', e2', e3', e4', e5'⟩ := hlv m z hm
    rw [e5] at hb
    rw [e5']
    refine h.disj o o' x x' (fun e => hne ?_) e2 e2' b hb
    subst e
    exact hinj n m o e1 e1'
  · intro s v hs
    have hs' := mem_of_look hs
    unfold keepE at hs'
    simp only [List.mem_map] at hs'
    obtain ⟨s', hs'', e⟩ := hs'
    obtain ⟨rfl, rfl⟩ := Prod.mk.inj e
    cases hv : look env s' with
    | none =>
      rw [Option.getD_none]
      simp only [ren, ren0, VRel]
    | some lv =>
      rw [Option.getD_some]
      exact ren_V hl (h.env s' lv hv)
  · intro n
    rw [hloc']
    cases look (os.map fun p => (p.2, p.1)) n with
    | some o => exact h.nodead o
    | none =>
      simp only
      split
      · intro e; cases e
      · exact h.nodead n
  · intro n hn hk'
    rw [hloc', k1 n hk']
    simp only
    rw [if_pos hn]
  · intro n hn
    rw [hloc']
    cases hk' : look (os.map fun p => (p.2, p.1)) n with
    | some o =>
      have := mem_of_look hk'
      simp only [List.mem_map] at this
      obtain ⟨p, hp, e⟩ := this
      obtain ⟨rfl, rfl⟩ := Prod.mk.inj e
      have := List.all_eq_true.1 hr p hp
      simp only [Bool.or_eq_true, decide_eq_true_eq, Bool.and_eq_true] at this
      rcases this with e | e
      · simp only
        rw [e]
        exact h.lent p.2 hn
      · omega
    | none =>
      simp only
      rw [if_neg (by omega)]
      exact h.lent n hn

/-- A slot, said anew. -/
theorem SRx.said (h : SRx c J loc φ env H a w) {s : Nat} {lv : LV} (hv : VRel w (Im c J) loc lv (a.tmps.getD s undef)) : SRx c J loc φ ((s, lv) :: env) H a w := by
  refine { h with env := ?_ }
  intro t u ht
  rw [look_cons] at ht
  split at ht
  · rename_i e
    subst e
    obtain rfl := Option.some.inj ht
    exact hv
  · exact h.env t u ht

theorem SRx.mat (h : SRx c J loc φ env H a w) {s n es : Nat} (hs : look env s = some (.nil es)) (hn : freshN H n = true) : SR c ((s, .sl es n 0 0) :: env) ((n, some []) :: H) a w := by
  simp only [freshN, Bool.and_eq_true, Option.isNone_iff_eq_none, decide_eq_true_eq] at hn
  have h1 := h.add (n := n) (x := []) (l := .nil) (fp := []) (.inl ⟨hn.2, hn.1⟩) (by simp) (live_of_look hn.1) (by unfold ObjRel; exact ⟨rfl, rfl⟩) List.nodup_nil (fun b hb => by cases hb)
  refine (h1.said (s := s) (lv := .sl es n 0 0) ?_).sr
  have := h.env s _ hs
  simp only [VRel] at this ⊢
  rw [upd_same]
  exact ⟨rfl, rfl, none, this⟩

theorem SRx.rpk (h : SRx c J loc φ env H a w) {o e j es m len : Nat} {y z : Rows} {r : Row} (hy : live H o = some y) (hr : y[e]? = some r) (hc : r[j]? = some (.sl es m 0 len)) (hz : live H m = some z) (hmo : m ≠ o) (hlen : z.length = len) (hp : rowsPlain z = true) :
    SR c env ((o, some (y.set e (splice r j [.arr es z]))) :: (m, none) :: H) a w := by
  have hobj := h.obj o y hy
  have hnd0 := h.nodup o y hy
  have hrng := h.rng o y hy
  obtain ⟨hel, hrel⟩ := List.getElem?_eq_some_iff.1 hr
  obtain ⟨hjl, hcj⟩ := List.getElem?_eq_some_iff.1 hc
  generalize hloc : loc o = l at hobj
  cases l with
  | unk => exact hobj.elim
  | dead => exact hobj.elim
  | nil =>
    obtain ⟨rfl, _⟩ := hobj
    simp at hel
  | «at» b base esz cnt sz =>
    obtain ⟨hcn, hpos, hall, cur, ty, fps, hb, hsz, hfit, hfp, hR⟩ := hobj
    obtain ⟨hin, A, M, B, e1, e3, e2⟩ := OwnR_open (n := 1) hpos hall hR hr hjl
    have hrl : r.length = esz := hall r (hrel ▸ List.getElem_mem hel)
    have hd : (r.drop j).take 1 = [.sl es m 0 len] := by
      rw [List.drop_eq_getElem_cons hjl, hcj]
      rfl
    rw [hd, List.drop_drop, ← Nat.add_assoc] at e3
    simp only [OwnC] at e3
    obtain ⟨v, t, f1, f2, hvt, rfl, hv, rfl⟩ := e3
    simp only [OwnV] at hv
    obtain ⟨hv, rfl⟩ := hv
    obtain ⟨f, g1, g2, g3⟩ := sl_arr (loc' := loc) hp (h.nodup m z hz) (h.obj m z hz) hv
    have hvw : vw z 0 len = z := by
      unfold vw
      rw [List.drop_zero, List.take_of_length_le (by omega)]
    rw [hvw] at g1
    have hown := e2 loc [.arr es z] [v] f (fun _ => .inr (.inl rfl)) rfl rfl (by simp only [OwnC]; exact ⟨v, [], f, [], rfl, by simp, g1, rfl⟩)
    have hlt : cur.toList.length = cur.size := Array.length_toList
    rw [List.length_drop] at hin
    have hsp : splice (cur.toList.drop base) (e * esz + j) [v] = cur.toList.drop base := by
      have := splice_self (cur.toList.drop base) (e * esz + j) 1 (by rw [List.length_drop]; omega)
      rw [List.drop_drop, ← Nat.add_assoc, hvt] at this
      simpa using this
    rw [hsp] at hown
    have hmem : ∀ k, k ∈ f → k ∈ φ m := g3
    have hdis : ∀ k, k ∈ φ m → k ∉ φ o := h.disj m o z y hmo hz hy
    have hkill : ∀ m' y, live ((o, none) :: (m, none) :: H) m' = some y → m' ≠ o ∧ m' ≠ m ∧ live H m' = some y := by
      intro m' y hm
      rw [live_cons] at hm
      split at hm
      · cases hm
      · rename_i q1
        rw [live_cons] at hm
        split at hm
        · cases hm
        · rename_i q2; exact ⟨q1, q2, hm⟩
    have hnd1 := hnd0
    rw [hfp, List.nodup_cons, e1] at hnd1
    have hfin := ((h.kill m).kill o).add (n := o) (x := y.set e (splice r j [.arr es z])) (l := loc o) (fp := b :: (A ++ f ++ B)) (.inr rfl) (h.nodead o) (by rw [live_cons, if_pos rfl]) (by
        rw [upd_self, hloc]
        refine ⟨by simpa using hcn, hpos, ?_, cur, ty, _, hb, hsz, hfit, rfl, hown⟩
        intro s hs
        rcases List.mem_or_eq_of_mem_set hs with hs | rfl
        · exact hall s hs
        · rw [splice_length _ _ _ (by simp; omega)]; exact hrl) (by
        have k1 := hnd1.1
        have k2 := hnd1.2
        have hbo : b ∈ φ o := by rw [hfp]; simp
        have hAo : ∀ k, k ∈ A → k ∈ φ o := fun k hk => by rw [hfp, e1]; simp [hk]
        have hBo : ∀ k, k ∈ B → k ∈ φ o := fun k hk => by rw [hfp, e1]; simp [hk]
        rw [List.nodup_cons]
        simp only [List.append_nil, List.mem_append, List.nodup_append] at k1 k2 ⊢
        refine ⟨fun hh => ?_, ⟨k2.1, g2, fun x hx x' hx' e => ?_⟩, k2.2.1, fun x hx x' hx' e => ?_⟩
        · rcases hh with (hh | hh) | hh
          · exact k1 (.inl hh)
          · exact hdis b (hmem b hh) hbo
          · exact k1 (.inr hh)
        · subst e
          exact hdis x (hmem x hx') (hAo x hx)
        · subst e
          rcases hx with hx | hx
          · exact k2.2.2 x hx x hx' rfl
          · exact hdis x (hmem x hx) (hBo x hx')) (by
        intro k hk
        have hk' : k ∈ φ o ∨ k ∈ φ m := by
          rcases List.mem_cons.1 hk with rfl | hk
          · left; rw [hfp]; simp
          · simp only [List.mem_append] at hk
            rcases hk with (hk | hk) | hk
            · left; rw [hfp, e1]; simp [hk]
            · exact .inr (hmem k hk)
            · left; rw [hfp, e1]; simp [hk]
        rcases hk' with hk' | hk'
        · obtain ⟨q1, q2, q3⟩ := hrng k hk'
          refine ⟨q1, q2, q3, fun m' y' hm hkm => ?_⟩
          obtain ⟨t1, t2, t3⟩ := hkill m' y' hm
          exact h.disj o m' y y' (fun e => t1 e.symm) hy t3 k hk' hkm
        · obtain ⟨q1, q2, q3⟩ := h.rng m z hz k hk'
          refine ⟨q1, q2, q3, fun m' y' hm hkm => ?_⟩
          obtain ⟨t1, t2, t3⟩ := hkill m' y' hm
          exact h.disj m m' z y' (fun e => t2 e.symm) hz t3 k hk' hkm)
    rw [upd_self] at hfin
    exact hfin.unkill.sr

/-! ### Code -/
def LC.ghost : LC → Bool
  | .keep _ _ => true
  | .kp _ => true
  | .mat _ _ => true
  | .rpk _ => true
  | .seq a b => a.ghost && b.ghost
  | _ => false
theorem ghost_ok : ∀ (g : LC) {s s' : St} {e : Ex}, g.ghost = true → runC S g s = some (e, s') → SR c s.env s.heap a w → e = .normal ∧ SR c s'.env s'.heap a w
  | .skip, _, _, _, hg, _, _ => by cases hg
  | .reg _, _, _, _, hg, _, _ => by cases hg
  | .regD _ _ _, _, _, _, hg, _, _ => by cases hg
  | .cond _ _ _, _, _, _, hg, _, _ => by cases hg
  | .block _ _, _, _, _, hg, _, _ => by cases hg
  | .loop _, _, _, _, hg, _, _ => by cases hg
  | .exit _, _, _, _, hg, _, _ => by cases hg
  | .ret, _, _, _, hg, _, _ => by cases hg
  | .seq x y, s, s', e, hg, hr, h => by
    simp only [LC.ghost, Bool.and_eq_true] at hg
    simp only [runC] at hr
    obtain ⟨⟨e1, s1⟩, h1, hr⟩ := Option.bind_eq_some_iff.1 hr
    obtain ⟨rfl, h2⟩ := ghost_ok x hg.1 h1 h
    exact ghost_ok y hg.2 hr h2
  | .keep ss os, s, s', e, hg, hr, h => by
    simp only [runC] at hr
    split at hr
    · rename_i hc
      obtain ⟨h', hk, hr⟩ := Option.bind_eq_some_iff.1 hr
      obtain ⟨rfl, rfl⟩ := Prod.mk.inj (Option.some.inj hr)
      obtain ⟨J, loc, φ, hx⟩ := h
      exact ⟨rfl, hx.keep hc.1 hc.2.1 hc.2.2 hk⟩
    · cases hr
  | .kp ss, s, s', e, hg, hr, h => by
    simp only [runC] at hr
    obtain ⟨rfl, rfl⟩ := Prod.mk.inj (Option.some.inj hr)
    obtain ⟨J, loc, φ, hx⟩ := h
    refine ⟨rfl, (hx.weaken (fun t v ht => ?_)).sr⟩
    have := mem_of_look ht
    simp only [List.mem_map] at this
    obtain ⟨n, _, e⟩ := this
    obtain ⟨rfl, rfl⟩ := Prod.mk.inj e
    cases hv : look s.env n with
    | none => exact .inl rfl
    | some u => exact .inr rfl
  | .mat sl n, s, s', e, hg, hr, h => by
    simp only [runC] at hr
    split at hr
    · rename_i es hs
      split at hr
      · rename_i hf
        obtain ⟨rfl, rfl⟩ := Prod.mk.inj (Option.some.inj hr)
        obtain ⟨J, loc, φ, hx⟩ := h
        exact ⟨rfl, hx.mat hs hf⟩
      · cases hr
    · cases hr
  | .rpk x, s, s', e, hg, hr, h => by
    simp only [runC] at hr
    split at hr
    · rename_i o e' j hx
      obtain ⟨y, hy, hr⟩ := Option.bind_eq_some_iff.1 hr
      obtain ⟨r, hre, hr⟩ := Option.bind_eq_some_iff.1 hr
      obtain ⟨cc, hc, hr⟩ := Option.bind_eq_some_iff.1 hr
      split at hr
      · rename_i es m len
        obtain ⟨z, hz, hr⟩ := Option.bind_eq_some_iff.1 hr
        split at hr
        · rename_i hcond
          obtain ⟨rfl, rfl⟩ := Prod.mk.inj (Option.some.inj hr)
          obtain ⟨J, loc, φ, hx⟩ := h
          exact ⟨rfl, hx.rpk hy hre hc hz hcond.1 hcond.2.1 hcond.2.2⟩
        · cases hr
      · cases hr
    · cases hr

def chkC (P : Program) (nt : Nat) : LC → Code → Bool
  | .skip, code => match code with
    | .skip => true
    | _ => false
  | .reg ops, code => match code with
    | .region _ xs false => okL [] ops && chkFs P nt xs (flatL none ops) xs.toList
    | _ => false
  | .regD hide a b, code => match code with
    | .region _ xs true => chkD P nt xs a b
    | _ => false
  | .seq a b, code => if a.ghost then chkC P nt b code else if b.ghost then chkC P nt a code else match code with
    | .seq x y => chkC P nt a x && chkC P nt b y
    | _ => false
  | .cond c a b, code => match code with
    | .cond c' x y => opdOk c c' && chkC P nt a x && chkC P nt b y
    | _ => false
  | .block id b, code => match code with
    | .block id' x => decide (id = id') && chkC P nt b x
    | _ => false
  | .loop b, code => match code with
    | .loop x => chkC P nt b x
    | _ => false
  | .exit id, code => match code with
    | .exit id' => decide (id = id')
    | _ => false
  | .ret, code => match code with
    | .ret => true
    | _ => false
  | .keep _ _, _ => false
  | .kp _, _ => false
  | .mat _ _, _ => false
  | .rpk _, _ => false

def Ex.out : Ex → Exit
  | .normal => .normal
  | .exit id => .exit id
  | .ret => .ret

/-- A drawn region. -/
theorem regD_ok (hS : SigOk P S) (hm : P.follows .mixedOrders = true) {ops : Array Oper} {id : Nat} {Q : Exit → Act → World → Prop} {hide : List Nat} {ra : List (Bool × ROp)} {rb : List ROp} {s s1 s2 : St} (hc : chkD P c.nt ops ra rb = true) (h : SR c s.env s.heap a w)
    (h1 : runD S hide s.heap s ra = some s1) (h2 : runR S s1 rb = some s2) (hQ : ∀ a' w', SR c s2.env s2.heap a' w' → Q .normal a' w') : (Code.region id ops true).wp P Q a w := by
  unfold chkD at hc
  simp only [Bool.and_eq_true, decide_eq_true_eq] at hc
  obtain ⟨⟨⟨⟨⟨c1, c2⟩, c3⟩, c4⟩, c5⟩, c6⟩ := hc
  obtain ⟨ts, X1, r1, r2, r3, r4, r5⟩ := flatD_ok ra (X := []) (envF := s.env) c1 (fun _ _ => rfl) (fun _ hs => by cases hs) h1
  obtain ⟨envF', X', k1, k2, k3⟩ := flatR_ok rb r5 r2 r3 h2
  rw [← r4] at k1
  have hD : Drawn P c S ops hide s.heap s.env (flatD ra) ts := by
    refine ⟨r1, c2, fun i p hp => ?_⟩
    have hp' : (flatD ra ++ (flatL none rb).map (fun f => (false, f)))[i]? = some p := by
      rw [List.getElem?_append_left (List.getElem?_eq_some_iff.1 hp).1]
      exact hp
    have := chkA_spec c3 hp'
    rwa [Nat.zero_add] at this
  have hchk : ∀ (k : Nat) (f : FOp), (flatL none rb)[k]? = some f → ∃ o, ops[(flatD ra).length + k]? = some o ∧ chkF P c.nt ops f o = true := by
    intro k f hf
    have hp' : (flatD ra ++ (flatL none rb).map (fun f => (false, f)))[(flatD ra).length + k]? = some (false, f) := by
      rw [List.getElem?_append_right (by omega), Nat.add_sub_cancel_left, List.getElem?_map, hf]
      rfl
    have := chkA_spec c3 hp'
    rwa [Nat.zero_add] at this
  refine wp_region_any hm (any_ok hS hD k1 c4 hchk c5 c6 (fun a' w' hs => hQ a' w' ?_) ops.size (Array.replicate ops.size false) a _ (by simp) (undone_le _ _) ?_ (.inl ⟨?_, ?_⟩))
  · obtain ⟨J, loc, φ, hx⟩ := hs
    refine (hx.weaken (fun x v hv => ?_)).sr
    by_cases e : x ∈ X'
    · exact .inl (k3 x e v hv)
    · exact .inr (by rw [← k2 x e]; exact hv)
  · intro i o hi
    simp [dn, Array.getD_eq_getD_getElem?, Array.getElem?_replicate] at hi
    split at hi <;> simp at hi
  · intro k hk
    simp only [dn, Array.getD_eq_getD_getElem?, Array.getElem?_replicate]
    split <;> rfl
  · have h0 : dn (Array.replicate ops.size false) = fun _ => false := by
      funext k
      simp only [dn, Array.getD_eq_getD_getElem?, Array.getElem?_replicate]
      split <;> rfl
    rw [h0, envS_none (fun _ _ => rfl), heapS_none (fun _ _ => rfl)]
    obtain ⟨J, loc, φ, hx⟩ := h
    exact (hx.pushed (w' := { w with drawn := w.drawn + 1 }) rfl rfl rfl (Nat.le_refl _) (fun _ _ => rfl)).sr

theorem code_ok (hS : SigOk P S) (hm : P.follows .mixedOrders = true) : ∀ (lc : LC) (code : Code) {s s' : St} {e : Ex} {a : Act} {w : World} {Q : Exit → Act → World → Prop}, chkC P c.nt lc code = true → runC S lc s = some (e, s') → SR c s.env s.heap a w →
    (∀ a' w', SR c s'.env s'.heap a' w' → Q e.out a' w') → code.wp P Q a w
  | .skip, code, s, s', e, a, w, Q, hc, hr, h, hQ => by
    simp only [chkC] at hc
    split at hc
    · obtain ⟨rfl, rfl⟩ := Prod.mk.inj (Option.some.inj hr)
      exact wp_skip (hQ a w h)
    · cases hc
  | .reg ops, code, s, s', e, a, w, Q, hc, hr, h, hQ => by
    simp only [chkC] at hc
    split at hc
    · simp only [runC] at hr
      obtain ⟨s1, h1, hr⟩ := Option.bind_eq_some_iff.1 hr
      obtain ⟨rfl, rfl⟩ := Prod.mk.inj (Option.some.inj hr)
      simp only [Bool.and_eq_true] at hc
      exact reg_ok hS hc.1 hc.2 h h1 hQ
    · cases hc
  | .regD hide ra rb, code, s, s', e, a, w, Q, hc, hr, h, hQ => by
    simp only [chkC] at hc
    split at hc
    · simp only [runC] at hr
      obtain ⟨s1, h1, hr⟩ := Option.bind_eq_some_iff.1 hr
      obtain ⟨s2, h2, hr⟩ := Option.bind_eq_some_iff.1 hr
      obtain ⟨rfl, rfl⟩ := Prod.mk.inj (Option.some.inj hr)
      exact regD_ok hS hm hc h h1 h2 hQ
    · cases hc
  | .seq x y, code, s, s', e, a, w, Q, hc, hr, h, hQ => by
    simp only [chkC] at hc
    simp only [runC] at hr
    obtain ⟨⟨e1, s1⟩, h1, hr⟩ := Option.bind_eq_some_iff.1 hr
    split at hc
    · rename_i hg
      obtain ⟨rfl, h2⟩ := ghost_ok x hg h1 h
      exact code_ok hS hm y code hc hr h2 hQ
    · split at hc
      · rename_i hg
        refine code_ok hS hm x code hc h1 h (fun a' w' hs => ?_)
        cases e1 with
        | normal =>
          obtain ⟨rfl, h3⟩ := ghost_ok y hg hr hs
          exact hQ a' w' h3
        | exit id =>
          obtain ⟨rfl, rfl⟩ := Prod.mk.inj (Option.some.inj hr)
          exact hQ a' w' hs
        | ret =>
          obtain ⟨rfl, rfl⟩ := Prod.mk.inj (Option.some.inj hr)
          exact hQ a' w' hs
      · split at hc
        · simp only [Bool.and_eq_true] at hc
          refine wp_seq (code_ok hS hm x _ hc.1 h1 h (fun a' w' hs => ?_))
          cases e1 with
          | normal => exact code_ok hS hm y _ hc.2 hr hs hQ
          | exit id =>
            obtain ⟨rfl, rfl⟩ := Prod.mk.inj (Option.some.inj hr)
            exact hQ a' w' hs
          | ret =>
            obtain ⟨rfl, rfl⟩ := Prod.mk.inj (Option.some.inj hr)
            exact hQ a' w' hs
        · cases hc
  | .cond cd x y, code, s, s', e, a, w, Q, hc, hr, h, hQ => by
    simp only [chkC] at hc
    split at hc
    · simp only [Bool.and_eq_true] at hc
      simp only [runC] at hr
      obtain ⟨p, hp, hr⟩ := Option.bind_eq_some_iff.1 hr
      obtain ⟨J, loc, φ, hx⟩ := h
      have hv := opd_rel hx.env hc.1.1
      rename_i c' x' y'
      have hb : a.eval c' = .bool p := by
        unfold asB at hp
        split at hp
        · rename_i b hb
          obtain rfl := Option.some.inj hp
          rw [hb] at hv
          exact hv
        · cases hp
      refine wp_cond hb ?_
      cases p with
      | true => exact code_ok hS hm x _ hc.1.2 hr hx.sr hQ
      | false => exact code_ok hS hm y _ hc.2 hr hx.sr hQ
    · cases hc
  | .block id b, code, s, s', e, a, w, Q, hc, hr, h, hQ => by
    simp only [chkC] at hc
    split at hc
    · simp only [Bool.and_eq_true, decide_eq_true_eq] at hc
      obtain ⟨rfl, hc⟩ := hc
      simp only [runC] at hr
      obtain ⟨⟨e1, s1⟩, h1, hr2⟩ := Option.bind_eq_some_iff.1 hr
      clear hr
      have hr := Option.some.inj hr2
      clear hr2
      refine wp_block (code_ok hS hm b _ hc h1 h (fun a' w' hs => ?_))
      cases e1 with
      | normal =>
        obtain ⟨rfl, rfl⟩ := Prod.mk.inj hr
        exact hQ a' w' hs
      | ret =>
        obtain ⟨rfl, rfl⟩ := Prod.mk.inj hr
        exact hQ a' w' hs
      | exit i =>
        simp only [inBlock] at hr
        simp only [Ex.out, Exit.inBlock]
        split at hr
        · rename_i e; subst e
          obtain ⟨rfl, rfl⟩ := Prod.mk.inj hr
          rw [if_pos rfl]
          exact hQ a' w' hs
        · rename_i e
          obtain ⟨rfl, rfl⟩ := Prod.mk.inj hr
          rw [if_neg e]
          exact hQ a' w' hs
    · cases hc
  | .loop b, code, s, s', e, a, w, Q, hc, hr, h, hQ => by
    simp only [chkC] at hc
    split at hc
    · simp only [runC] at hr
      obtain ⟨n, hn⟩ := (Loop_iff _ _ _).1 hr
      refine wp_loop_n (n := n) (I := fun n a w => ∃ s, iterN (fun s => stepOf (runC S b s)) n s = some (e, s') ∧ SR c s.env s.heap a w) ?_ ⟨s, hn, h⟩
      rintro n a w ⟨s, hn, h⟩
      cases n with
      | zero => simp [iterN] at hn
      | succ n =>
        simp only [iterN] at hn
        cases h1 : runC S b s with
        | none => rw [h1] at hn; simp [stepOf] at hn
        | some q =>
          obtain ⟨e1, s1⟩ := q
          rw [h1] at hn
          refine code_ok hS hm b _ hc h1 h (fun a' w' hs => ?_)
          cases e1 with
          | normal =>
            simp only [stepOf] at hn
            exact ⟨n, by omega, s1, hn, hs⟩
          | exit id =>
            simp only [stepOf] at hn
            obtain ⟨rfl, rfl⟩ := Prod.mk.inj (Option.some.inj hn)
            exact hQ a' w' hs
          | ret =>
            simp only [stepOf] at hn
            obtain ⟨rfl, rfl⟩ := Prod.mk.inj (Option.some.inj hn)
            exact hQ a' w' hs
    · cases hc
  | .exit id, code, s, s', e, a, w, Q, hc, hr, h, hQ => by
    simp only [chkC] at hc
    split at hc
    · simp only [decide_eq_true_eq] at hc
      subst hc
      obtain ⟨rfl, rfl⟩ := Prod.mk.inj (Option.some.inj hr)
      exact wp_exit (hQ a w h)
    · cases hc
  | .ret, code, s, s', e, a, w, Q, hc, hr, h, hQ => by
    simp only [chkC] at hc
    split at hc
    · obtain ⟨rfl, rfl⟩ := Prod.mk.inj (Option.some.inj hr)
      exact wp_ret (hQ a w h)
    · cases hc
  | .keep _ _, code, _, _, _, _, _, _, hc, _, _, _ => by simp only [chkC] at hc; cases hc
  | .kp _, code, _, _, _, _, _, _, hc, _, _, _ => by simp only [chkC] at hc; cases hc
  | .mat _ _, code, _, _, _, _, _, _, hc, _, _, _ => by simp only [chkC] at hc; cases hc
  | .rpk _, code, _, _, _, _, _, _, hc, _, _, _ => by simp only [chkC] at hc; cases hc
end
end Go.Lev
