/- Calls: what a function's contract says, and what a caller makes of it. -/
import Derived.Test.YtahjhlnhkoifhaaGreatZD
set_option linter.unusedVariables false
set_option linter.unusedSimpArgs false
namespace Go.Lev

/-- Objects that are lent to a function. -/
structure Lent (w : World) (imm : Nat → Prop) (loc : Nat → Loc) (φ : Nat → List Nat) (objs : Heap) : Prop where
  names : ∀ n x, look objs n = some x → 900000 ≤ n
  obj : HRel w imm loc φ objs
  lt : ∀ n x, live objs n = some x → ∀ b, b ∈ φ n → b < w.heap.size ∧ ¬ imm b
  nodup : ∀ n x, live objs n = some x → (φ n).Nodup
  disj : ∀ n m x y, n ≠ m → live objs n = some x → live objs m = some y → ∀ b, b ∈ φ n → b ∉ φ m
  nodead : ∀ n, loc n ≠ .dead
  unk : ∀ n, n < 900000 → loc n = .unk

def OutV (w : World) (imm : Nat → Prop) (loc : Nat → Loc) (lv : LV) (v : Value) (fp : List Nat) : Prop :=
  match lv with
  | .agg cs => ∃ vs : List Value, v = .agg vs.toArray ∧ vs.length = cs.length ∧ OwnC w imm loc cs vs fp
  | lv => OwnV w imm loc lv v fp
def OutL (w : World) (imm : Nat → Prop) (loc : Nat → Loc) : List LV → List Value → List Nat → Prop
  | [], vs, fp => vs = [] ∧ fp = []
  | r :: rs, vs, fp => ∃ v t f1 f2, vs = v :: t ∧ fp = f1 ++ f2 ∧ OutV w imm loc r v f1 ∧ OutL w imm loc rs t f2
def packV : List Value → Value
  | [v] => v
  | vs => .tuple vs.toArray

def okF (P : Program) (f : FuncId) : Prop := ∃ fn, P.funcs[f]? = some fn ∧ fn.body.isSome = true ∧ (fn.name == "runtime.NumGoroutine") = false

/-- What the ending of a call is worth. -/
structure SndPost (w : World) (imm : Nat → Prop) (loc : Nat → Loc) (φ : Nat → List Nat) (objs : Heap) (res : List LV) (objs' : Heap) (rs : List Value) (J : Nat → Prop) (φ' : Nat → List Nat) (fp : List Nat) (w' : World) : Prop where
  os : w'.os = w.os
  tape : w'.tape = w.tape
  output : w'.output = w.output
  size : w.heap.size ≤ w'.heap.size
  same : ∀ b, b < w.heap.size → (∀ n x, live objs n = some x → b ∉ φ n) → w'.heap[b]? = w.heap[b]?
  jin : ∀ b, J b → w.heap.size ≤ b ∧ b < w'.heap.size
  out : OutL w' (fun b => imm b ∨ J b) loc res rs fp
  nodup : fp.Nodup
  obj : ∀ n x, live objs' n = some x → ObjRel w' (fun b => imm b ∨ J b) loc x (loc n) (φ' n) ∧ (φ' n).Nodup ∧ rowsPlain x = true
  names : ∀ n, look objs' n ≠ none → look objs n ≠ none
  fpIn : ∀ b, b ∈ fp → ((∃ n x, live objs n = some x ∧ b ∈ φ n) ∨ w.heap.size ≤ b) ∧ b < w'.heap.size ∧ ¬ J b
  objIn : ∀ n x, live objs' n = some x → ∀ b, b ∈ φ' n → ((∃ n x, live objs n = some x ∧ b ∈ φ n) ∨ w.heap.size ≤ b) ∧ b < w'.heap.size ∧ ¬ J b
  fpDisj : ∀ n x, live objs' n = some x → ∀ b, b ∈ φ' n → b ∉ fp
  disj : ∀ n m x y, n ≠ m → live objs' n = some x → live objs' m = some y → ∀ b, b ∈ φ' n → b ∉ φ' m

def Snd (P : Program) (f : FuncId) (args : List LV) (objs : Heap) (res : List LV) (objs' : Heap) : Prop :=
  okF P f ∧ ∀ (w : World) (vs : List Value) (imm : Nat → Prop) (loc : Nat → Loc) (φ : Nat → List Nat), (∀ b, imm b → b < w.heap.size) → Lent w imm loc φ objs → VC w imm loc args vs →
    Calls P f vs.toArray w fun e w' => ∃ rs J φ' fp, e = .returned (packV rs) ∧ SndPost w imm loc φ objs res objs' rs J φ' fp w'

def SigOk (P : Program) (S : Sig) : Prop := ∀ f args objs r, S f args objs = some r → Snd P f args objs r.1 r.2

theorem run_callFunc {P : Program} {f : FuncId} (h : okF P f) (args : Array Value) (w : World) : (callFunc f args).run P w = .ok (.enter f args) w := by
  obtain ⟨fn, hf, hb, hn⟩ := h
  have hb' : fn.body.isNone = false := by cases hh : fn.body <;> simp_all
  simp only [callFunc, Sem.run_bind, run_program, Result.andThen_ok, hf, hn, hb', Bool.false_eq_true, if_false, Sem.run_pure]
theorem run_call {P : Program} {o : Oper} {a : Act} {w : World} {c : Call} {x : Operand} {f : FuncId} {caps : List Value} (ho : o.op = .call c) (hc : c.callee = .value x) (hx : a.eval x = .func (.func f) #[] caps.toArray) (hf : okF P f) :
    (execOp a.eval o).run P w = .ok (.enter f (c.args.toList.map a.eval ++ caps).toArray) w := by
  have : c.args.map a.eval ++ caps.toArray = (c.args.toList.map a.eval ++ caps).toArray := by
    apply Array.ext'
    simp
  simp [execOp, ho, resolve, hc, hx, Deferred.ofValue, invoke, run_callFunc hf, this]

section
variable {P : Program} {c : Ctx} {J : Nat → Prop} {loc : Nat → Loc} {φ : Nat → List Nat} {env : Env} {H : Heap} {a : Act} {w : World}

/-! ### Frozen arguments -/
theorem OwnR_vw {imm : Nat → Prop} {esz : Nat} {x : Rows} {vs : List Value} {fp : List Nat} (off len : Nat) (ho : off ≤ x.length) (hl : ∀ r ∈ x, r.length = esz) (h : OwnR w imm loc x vs fp) : ∃ f, (∀ b, b ∈ f → b ∈ fp) ∧ OwnR w imm loc (vw x off len) (vs.drop (off * esz)) f := by
  obtain ⟨f1, f2, rfl, _, h2⟩ := OwnR_split off ho hl h
  by_cases hlen : len ≤ (x.drop off).length
  · obtain ⟨g1, g2, rfl, k, _⟩ := OwnR_split len hlen (fun r hr => hl r (List.mem_of_mem_drop hr)) h2
    exact ⟨g1, fun b hb => by simp [hb], k⟩
  · refine ⟨f2, fun b hb => by simp [hb], ?_⟩
    unfold vw
    rw [List.take_of_length_le (by omega)]
    exact h2

/-- A slice of an object, as one of memory that nobody writes. -/
theorem sl_list {es : Nat} {imm imm' : Nat → Prop} (hi : ∀ b, imm b → imm' b) {o off len : Nat} {x : Rows} {v : Value} {l : Loc} {fp : List Nat} (hf : ∀ b, b ∈ fp → imm' b) (hobj : ObjRel w imm loc x l fp) (hv : SlRel es l off len v) : ImmV w imm' (.list es (vw x off len)) v := by
  simp only [ImmV]
  cases l with
  | unk => exact hv.elim
  | dead => exact hobj.elim
  | nil =>
    obtain ⟨rfl, rfl, ad, rfl⟩ := hv
    obtain ⟨rfl, _⟩ := hobj
    exact ⟨ad, 0, by simp [vw], by simp [vw], .inl (by simp [vw])⟩
  | «at» b base esz n sz =>
    obtain ⟨rfl, hle, ad, cap, rfl, hv⟩ := hv
    obtain ⟨hn, hpos, hall, cs, ty, fps, hb, hsz, hfit, hfp, hR⟩ := hobj
    have hlen : (vw x off len).length = len := by simp [vw]; omega
    refine ⟨ad, cap, by rw [hlen], ?_, ?_⟩
    · rw [hlen]
      rcases hv with ⟨e0, e1⟩ | ⟨_, _, hlc⟩ <;> omega
    · rcases hv with ⟨e0, e1⟩ | ⟨rfl, hsz', hlc⟩
      · left
        exact List.eq_nil_of_length_eq_zero (by rw [hlen]; exact e0)
      · right
        obtain ⟨f, hf', hR'⟩ := OwnR_vw off len (by omega) hall hR
        refine ⟨b, base + off * esz, cs, ty, (0, 0), rfl, hf b (by rw [hfp]; simp), hb, ?_, ?_⟩
        · intro r hr
          exact hall r (List.mem_of_mem_drop (List.mem_of_mem_take hr))
        · rw [List.drop_drop] at hR'
          exact Own_ImmR imm' _ _ hi _ f _ (fun k hk => hf k (by rw [hfp]; exact List.mem_cons_of_mem _ (hf' k hk))) hR'

theorem frzCell_rel {imm imm' : Nat → Prop} (hi : ∀ b, imm b → imm' b) (hH : HRel w imm loc φ H) (hf : ∀ n x, live H n = some x → ∀ b, b ∈ φ n → imm' b) {cv : LV} {v : Value} {f : List Nat} (hfp : ∀ b, b ∈ f → imm' b) (h : OwnV w imm loc cv v f) : ImmV w imm' (frzCell H cv) v := by
  have h1 := OwnV_one h
  cases cv <;> simp only [frzCell]
  case sl es o off len =>
    cases hl : live H o with
    | none => exact h1
    | some x =>
      simp only [OwnV] at h
      have := sl_list (o := o) hi (hf o x hl) (hH o x hl) h.1
      simpa only [ImmV] using this
  case arr es xs => exact Own_ImmV imm' _ _ hi _ f _ hfp h
  case list es xs =>
    have := Own_ImmV imm' _ _ hi _ f _ hfp h
    simpa only [ImmV] using this
  case nil =>
    simp only [OwnV] at h
    simp only [ImmV]
    exact ⟨none, 0, h.1, by simp, .inl trivial⟩
  all_goals first
    | exact h1
    | (simp only [OwnV] at h; simp only [ImmV]; exact h.1)
theorem frzCells_rel {imm imm' : Nat → Prop} (hi : ∀ b, imm b → imm' b) (hH : HRel w imm loc φ H) (hf : ∀ n x, live H n = some x → ∀ b, b ∈ φ n → imm' b) : ∀ {cs : List LV} {vs : List Value} {f : List Nat}, (∀ b, b ∈ f → imm' b) → OwnC w imm loc cs vs f → ImmC w imm' (cs.map (frzCell H)) vs
  | [], _, _, _, _ => trivial
  | c :: cs, vs, f, hfp, h => by
    simp only [OwnC] at h
    obtain ⟨v, t, f1, f2, rfl, rfl, h1, h2⟩ := h
    simp only [List.map_cons, ImmC]
    exact ⟨v, t, rfl, frzCell_rel hi hH hf (fun b hb => hfp b (List.mem_append_left _ hb)) h1, frzCells_rel hi hH hf (fun b hb => hfp b (List.mem_append_right _ hb)) h2⟩

theorem OwnR_row' {imm : Nat → Prop} {esz : Nat} {xs : Rows} {vs : List Value} {fp : List Nat} {i : Nat} {r : Row} (hl : ∀ r ∈ xs, r.length = esz) (h : OwnR w imm loc xs vs fp) (e : xs[i]? = some r) : ∃ f, (∀ b, b ∈ f → b ∈ fp) ∧ OwnC w imm loc r (vs.drop (i * esz)) f := by
  have hlt := (List.getElem?_eq_some_iff.1 e).1
  obtain ⟨f1, f2, rfl, _, h2⟩ := OwnR_split i (by omega) hl h
  have : xs.drop i = r :: xs.drop (i + 1) := by rw [List.drop_eq_getElem_cons hlt, (List.getElem?_eq_some_iff.1 e).2]
  rw [this] at h2
  simp only [OwnR] at h2
  obtain ⟨g1, g2, rfl, k, _⟩ := h2
  exact ⟨g1, fun b hb => by simp [hb], k⟩

theorem frz0_rel {imm imm' : Nat → Prop} {loc' : Nat → Loc} (hi : ∀ b, imm b → imm' b) (hH : HRel w imm loc φ H) {lv : LV} (hf : lv.noRef0 = true ∨ ∀ n x, live H n = some x → ∀ b, b ∈ φ n → imm' b) {v : Value} (h : VRel w imm loc lv v) : VRel w imm' loc' (frz0 H lv) v := by
  cases lv <;> simp only [frz0]
  case sl es o off len =>
    cases hl : live H o with
    | none => trivial
    | some x =>
      rcases hf with hf | hf
      · cases hf
      · simp only [VRel] at h ⊢
        exact sl_list (o := o) hi (hf o x hl) (hH o x hl) h
  case ptr o e j =>
    cases hl : live H o with
    | none => trivial
    | some x =>
      cases hr : x[e]? with
      | none => simp only [hr]; trivial
      | some r =>
        simp only [hr]
        rcases hf with hf | hf
        · cases hf
        · have hobj := hH o x hl
          simp only [VRel] at h ⊢
          generalize hloc : loc o = l at h hobj
          cases l with
          | unk => exact h.elim
          | dead => exact hobj.elim
          | nil => exact h.elim
          | «at» b base esz n sz =>
            obtain ⟨hn, hpos, hall, cs, ty, fps, hb, hsz, hfit, hfp, hR⟩ := hobj
            obtain ⟨f, hf', hC⟩ := OwnR_row' hall hR hr
            by_cases hj : j ≤ r.length
            · obtain ⟨g1, g2, rfl, _, hC2⟩ := OwnC_split j hj hC
              rw [List.drop_drop, List.drop_drop, ← Nat.add_assoc] at hC2
              have hin : ∀ k, k ∈ g2 → imm' k := fun k hk => hf o x hl k (by rw [hfp]; exact List.mem_cons_of_mem _ (hf' k (by simp [hk])))
              exact ⟨b, base + e * esz + j, cs, ty, (0, 0), h, hf o x hl b (by rw [hfp]; simp), hb, frzCells_rel hi hH hf hin hC2⟩
            · rw [List.drop_of_length_le (by omega)]
              exact ⟨b, base + e * esz + j, cs, ty, (0, 0), h, hf o x hl b (by rw [hfp]; simp), hb, by simp [ImmC]⟩
  case nil =>
    simp only [VRel, ImmV] at h ⊢
    exact ⟨none, 0, h, by simp, .inl trivial⟩
  case list es xs =>
    simp only [VRel] at h ⊢
    exact ImmV_mono hi (fun _ _ => rfl) _ _ h
  case pimm cs =>
    simp only [VRel] at h ⊢
    obtain ⟨b, off, cs', ty, fr, hv, hb, hw, hc⟩ := h
    exact ⟨b, off, cs', ty, fr, hv, hi b hb, hw, ImmC_mono hi (fun _ _ => rfl) _ _ hc⟩
  all_goals first
    | trivial
    | exact h
theorem frz0s_rel {imm imm' : Nat → Prop} {loc' : Nat → Loc} (hi : ∀ b, imm b → imm' b) (hH : HRel w imm loc φ H) : ∀ {cs : List LV} {vs : List Value}, (cs.all LV.noRef0 = true ∨ ∀ n x, live H n = some x → ∀ b, b ∈ φ n → imm' b) → VC w imm loc cs vs → VC w imm' loc' (cs.map (frz0 H)) vs
  | [], _, _, h => h
  | c :: cs, vs, hf, h => by
    simp only [VC] at h
    obtain ⟨v, t, rfl, h1, h2⟩ := h
    simp only [List.map_cons, VC]
    have hf1 : c.noRef0 = true ∨ ∀ n x, live H n = some x → ∀ b, b ∈ φ n → imm' b := hf.imp (fun k => by simp at k; exact k.1) id
    have hf2 : cs.all LV.noRef0 = true ∨ ∀ n x, live H n = some x → ∀ b, b ∈ φ n → imm' b := hf.imp (fun k => by simp at k; simpa using k.2) id
    exact ⟨v, t, rfl, frz0_rel hi hH hf1 h1, frz0s_rel hi hH hf2 h2⟩
theorem frz_rel {imm imm' : Nat → Prop} {loc' : Nat → Loc} (hi : ∀ b, imm b → imm' b) (hH : HRel w imm loc φ H) {lv : LV} (hf : lv.noRef = true ∨ ∀ n x, live H n = some x → ∀ b, b ∈ φ n → imm' b) {v : Value} (h : VRel w imm loc lv v) : VRel w imm' loc' (frz H lv) v := by
  cases lv
  case agg cs =>
    simp only [frz, VRel] at h ⊢
    obtain ⟨vs, hv, h1, h2⟩ := h
    exact ⟨vs, hv, h1, frz0s_rel hi hH (hf.imp (fun k => k) id) h2⟩
  case fn f cs =>
    simp only [frz, VRel] at h ⊢
    obtain ⟨vs, hv, h2⟩ := h
    exact ⟨vs, hv, frz0s_rel hi hH (hf.imp (fun k => k) id) h2⟩
  all_goals first
    | exact frz0_rel (lv := .undef) hi hH hf h
    | exact frz0_rel (lv := .nil _) hi hH hf h
    | exact frz0_rel (lv := .int _ _) hi hH hf h
    | exact frz0_rel (lv := .bool _) hi hH hf h
    | exact frz0_rel (lv := .str _) hi hH hf h
    | exact frz0_rel (lv := .tup _) hi hH hf h
    | exact frz0_rel (lv := .list _ _) hi hH hf h
    | exact frz0_rel (lv := .arr _ _) hi hH hf h
    | exact frz0_rel (lv := .sl _ _ _ _) hi hH hf h
    | exact frz0_rel (lv := .ptr _ _ _) hi hH hf h
    | exact frz0_rel (lv := .pimm _) hi hH hf h
theorem frzs_rel {imm imm' : Nat → Prop} {loc' : Nat → Loc} (hi : ∀ b, imm b → imm' b) (hH : HRel w imm loc φ H) : ∀ {cs : List LV} {vs : List Value}, (cs.all LV.noRef = true ∨ ∀ n x, live H n = some x → ∀ b, b ∈ φ n → imm' b) → VC w imm loc cs vs → VC w imm' loc' (cs.map (frz H)) vs
  | [], _, _, h => h
  | c :: cs, vs, hf, h => by
    simp only [VC] at h
    obtain ⟨v, t, rfl, h1, h2⟩ := h
    simp only [List.map_cons, VC]
    have hf1 : c.noRef = true ∨ ∀ n x, live H n = some x → ∀ b, b ∈ φ n → imm' b := hf.imp (fun k => by simp at k; exact k.1) id
    have hf2 : cs.all LV.noRef = true ∨ ∀ n x, live H n = some x → ∀ b, b ∈ φ n → imm' b := hf.imp (fun k => by simp at k; simpa using k.2) id
    exact ⟨v, t, rfl, frz_rel hi hH hf1 h1, frzs_rel hi hH hf2 h2⟩

/-! ### Results as frozen memory -/
theorem impF0_rel {imm imm' : Nat → Prop} {loc' : Nat → Loc} {ok : Bool} {lv : LV} {v : Value} {f : List Nat} (hi : ∀ b, ok = true → imm b → imm' b) (hf : ∀ b, b ∈ f → imm' b)
    (h : OwnV w imm loc lv v f) : VRel w imm' loc' (impF0 ok lv) v := by
  cases lv <;> simp only [impF0]
  case arr es xs =>
    split
    · rename_i hc
      have key : (∀ b, imm b → imm' b) ∨ LV.pure (.arr es xs) = true := by
        cases ok with
        | true => exact .inl (fun b hb => hi b rfl hb)
        | false => exact .inr (by simpa [LV.pure] using hc)
      have h' : OwnV w imm' loc (.arr es xs) v f := by
        rcases key with k | k
        · exact OwnV_mono _ imm imm' k (fun _ _ => rfl) loc v f (fun _ _ => rfl) h
        · exact OwnV_pure _ k _ _ h
      have := Own_ImmV imm' _ _ (fun _ k => k) _ f _ hf h'
      simp only [VRel]
      simpa only [ImmV] using this
    · trivial
  case list es xs =>
    simp only [OwnV] at h
    cases ok
    · trivial
    · simp only [if_true]
      exact ImmV_mono (fun b hb => hi b rfl hb) (fun _ _ => rfl) _ _ h.1
  all_goals first
    | trivial
    | (simp only [OwnV] at h; simp only [VRel]; exact h.1)
theorem impF0s_rel {imm imm' : Nat → Prop} {loc' : Nat → Loc} {ok : Bool} (hi : ∀ b, ok = true → imm b → imm' b) : ∀ {cs : List LV} {vs : List Value} {f : List Nat}, vs.length = cs.length → (∀ b, b ∈ f → imm' b) → OwnC w imm loc cs vs f → VC w imm' loc' (cs.map (impF0 ok)) vs ∧ (∀ u ∈ vs, u.oneCell' = true)
  | [], vs, f, hl, _, _ => by
    have : vs = [] := List.eq_nil_of_length_eq_zero (by simpa using hl)
    subst this
    exact ⟨rfl, by simp⟩
  | c :: cs, vs, f, hl, hf, h => by
    simp only [OwnC] at h
    obtain ⟨v, t, f1, f2, rfl, rfl, h1, h2⟩ := h
    obtain ⟨k1, k2⟩ := impF0s_rel (loc' := loc') hi (by simpa using hl) (fun b hb => hf b (List.mem_append_right _ hb)) h2
    refine ⟨?_, ?_⟩
    · simp only [List.map_cons, VC]
      exact ⟨v, t, rfl, impF0_rel hi (fun b hb => hf b (List.mem_append_left _ hb)) h1, k1⟩
    · intro u hu
      simp only [List.mem_cons] at hu
      rcases hu with rfl | hu
      · exact OwnV_one h1
      · exact k2 u hu
theorem impF_rel {imm imm' : Nat → Prop} {loc' : Nat → Loc} {ok : Bool} (hi : ∀ b, ok = true → imm b → imm' b) {lv : LV} {v : Value} {f : List Nat} (hf : ∀ b, b ∈ f → imm' b) (h : OutV w imm loc lv v f) : VRel w imm' loc' (impF ok lv) v := by
  cases lv
  case agg cs =>
    obtain ⟨vs, rfl, hl, hc⟩ := h
    obtain ⟨k1, k2⟩ := impF0s_rel (loc' := loc') hi hl hf hc
    simp only [impF, VRel]
    exact ⟨vs, rfl, k2, k1⟩
  all_goals
    simp only [impF]
    exact impF0_rel (loc := loc) hi hf h
theorem impFs_rel {imm imm' : Nat → Prop} {loc' : Nat → Loc} {ok : Bool} (hi : ∀ b, ok = true → imm b → imm' b) : ∀ {cs : List LV} {vs : List Value} {f : List Nat}, (∀ b, b ∈ f → imm' b) → OutL w imm loc cs vs f → VC w imm' loc' (cs.map (impF ok)) vs
  | [], vs, f, _, h => h.1
  | c :: cs, vs, f, hf, h => by
    simp only [OutL] at h
    obtain ⟨v, t, f1, f2, rfl, rfl, h1, h2⟩ := h
    simp only [List.map_cons, VC]
    exact ⟨v, t, rfl, impF_rel hi (fun b hb => hf b (List.mem_append_left _ hb)) h1, impFs_rel hi (fun b hb => hf b (List.mem_append_right _ hb)) h2⟩
theorem pack1_rel {imm : Nat → Prop} {cs : List LV} {vs : List Value} (h : VC w imm loc cs vs) : VRel w imm loc (pack1 cs) (packV vs) := by
  have hl := VC_len h
  match cs, vs, hl with
  | [], [], _ => simp only [pack1, packV, VRel]; exact ⟨[], rfl, rfl⟩
  | [c], [v], _ =>
    simp only [VC] at h
    obtain ⟨v', t, e, h1, h2⟩ := h
    cases e
    exact h1
  | c :: d :: cs, v :: u :: vs, _ =>
    simp only [pack1, packV, VRel]
    exact ⟨_, rfl, h⟩

theorem no_lent (w : World) (imm : Nat → Prop) : Lent w imm (fun _ => .unk) (fun _ => []) [] :=
  ⟨fun n x h => by simp [look] at h, fun n x h => by simp [live, look] at h, fun n x h => by simp [live, look] at h, fun n x h => by simp [live, look] at h, fun n m x y _ h => by simp [live, look] at h, fun _ => by simp, fun _ _ => rfl⟩

/-- A call of a function that only reads: the results are from then on memory that nobody writes. -/
theorem e_qcall {S : Sig} (hS : SigOk P S) (h : SRx c J loc φ env H a w) {f : Nat} {vs : List LV} {us : List Value} (hv : VC w (Im c J) loc vs us) {lv : LV} {Hq : Heap} (hsub : ∀ n x, live Hq n = some x → live H n = some x) (hq : qcall S f Hq vs = some lv) :
    okF P f ∧ Calls P f us.toArray w fun e w' => ∃ v, e = .returned v ∧ ∃ J', (∀ b, J b → J' b) ∧ SRx c J' loc φ env H a w' ∧ VRel w' (Im c J') loc lv v := by
  unfold qcall at hq
  cases hr : S f (vs.map (frz Hq)) [] with
  | none => rw [hr] at hq; cases hq
  | some r =>
    rw [hr] at hq
    obtain rfl := Option.some.inj hq
    obtain ⟨hok, hsnd⟩ := hS f _ _ _ hr
    refine ⟨hok, ?_⟩
    generalize hkk : vs.all LV.noRef = ok
    let imm' : Nat → Prop := fun b => if ok then Im c J b else b < w.heap.size
    have hi : ∀ b, Im c J b → imm' b := by
      intro b hb
      simp only [imm']
      split
      · exact hb
      · exact h.imm_lt hb
    have hlt : ∀ b, imm' b → b < w.heap.size := by
      intro b hb
      simp only [imm'] at hb
      split at hb
      · exact h.imm_lt hb
      · exact hb
    have hargs : VC w imm' (fun _ => .unk) (vs.map (frz Hq)) us := by
      refine frzs_rel hi (fun n x hn => h.obj n x (hsub n x hn)) ?_ hv
      cases ok
      · right
        intro n x hn b hb
        simp only [imm', Bool.false_eq_true, if_false]
        exact (h.rng n x (hsub n x hn) b hb).2.1
      · exact .inl hkk
    refine (hsnd w us imm' (fun _ => .unk) (fun _ => []) hlt (no_lent w imm') hargs).mono ?_
    rintro e w' ⟨rs, J1, φ1, fp, rfl, post⟩
    refine ⟨_, rfl, fun b => J b ∨ (J1 b ∨ b ∈ fp), fun b hb => .inl hb, ?_, ?_⟩
    · refine (h.pushed post.os post.tape post.output post.size (fun b hb => post.same b hb (fun n x hn => by simp [live, look] at hn))).freeze (fun b => J1 b ∨ b ∈ fp) ?_
      rintro b (hb | hb)
      · obtain ⟨k1, k2⟩ := post.jin b hb
        exact ⟨Nat.le_trans h.size k1, k2, fun m y hm hc => by have := (h.rng m y hm b hc).2.1; omega⟩
      · obtain ⟨k1, k2, _⟩ := post.fpIn b hb
        have k1 : w.heap.size ≤ b := by
          rcases k1 with ⟨n, x, hn, _⟩ | k1
          · simp [live, look] at hn
          · exact k1
        exact ⟨Nat.le_trans h.size k1, k2, fun m y hm hc => by have := (h.rng m y hm b hc).2.1; omega⟩
    · refine pack1_rel (impFs_rel (loc := fun _ => .unk) ?_ ?_ post.out)
      · intro b hk hb
        rcases hb with hb | hb
        · subst hk
          simp only [imm', if_true] at hb
          exact hb.imp id .inl
        · exact .inr (.inr (.inl hb))
      · intro b hb
        exact .inr (.inr (.inr hb))
end
end Go.Lev
