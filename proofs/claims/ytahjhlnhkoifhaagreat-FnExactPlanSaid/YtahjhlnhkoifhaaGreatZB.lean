/- How logical values and the logical heap stand to the machine's: relations, and what keeps them. -/
import Derived.Test.YtahjhlnhkoifhaaGreatZA
import Derived.Laws.CopyRow
import Derived.Deep.AppendSrc
import Derived.Orders
import Derived.Laws.Strings
set_option linter.unusedVariables false
namespace Go.Lev

inductive Loc where
  | unk
  | dead
  | nil
  | at (b base esz n sz : Nat)

def SlRel (es : Nat) : Loc → Nat → Nat → Value → Prop
  | .unk, _, _, _ => False
  | .dead, _, _, v => v.oneCell' = true
  | .nil, off, len, v => off = 0 ∧ len = 0 ∧ ∃ a, v = .slice a 0 0
  | .at b base esz n sz, off, len, v => esz = es ∧ off + len ≤ n ∧ ∃ a cap, v = .slice a len cap ∧
      ((len = 0 ∧ cap = 0) ∨ (a = some ⟨b, base + off * esz, none⟩ ∧ base + (off + cap) * esz ≤ sz ∧ len ≤ cap))
def PtrRel : Loc → Nat → Nat → Value → Prop
  | .unk, _, _, _ => False
  | .dead, _, _, v => v.oneCell' = true
  | .nil, _, _, _ => False
  | .at b base esz n sz, e, j, v => v = .pointer (some ⟨b, base + e * esz + j, none⟩)

mutual
/-- A cell of memory that nobody writes. -/
def ImmV (w : World) (imm : Nat → Prop) : LV → Value → Prop
  | .undef, v => v.oneCell' = true
  | .nil _, v => v = .slice none 0 0
  | .int k n, v => v = .int k n
  | .bool b, v => v = .bool b
  | .str s, v => v = .string s
  | .list es xs, v => ∃ a cap, v = .slice a xs.length cap ∧ xs.length ≤ cap ∧ (xs = [] ∨ ∃ b off cs ty fr, a = some ⟨b, off, none⟩ ∧ imm b ∧
      w.heap[b]? = some (.cells cs ty fr) ∧ (∀ r ∈ xs, r.length = es) ∧ ImmR w imm xs (cs.toList.drop off))
  | .arr es xs, v => ∃ a cap, v = .slice a xs.length cap ∧ xs.length ≤ cap ∧ (xs = [] ∨ ∃ b off cs ty fr, a = some ⟨b, off, none⟩ ∧ imm b ∧
      w.heap[b]? = some (.cells cs ty fr) ∧ (∀ r ∈ xs, r.length = es) ∧ ImmR w imm xs (cs.toList.drop off))
  | .fn _ _, v => v.oneCell' = true
  | .agg _, v => v.oneCell' = true
  | .tup _, v => v.oneCell' = true
  | .sl _ _ _ _, v => v.oneCell' = true
  | .ptr _ _ _, v => v.oneCell' = true
  | .pimm _, v => v.oneCell' = true
def ImmC (w : World) (imm : Nat → Prop) : List LV → List Value → Prop
  | [], _ => True
  | c :: cs, vs => ∃ v t, vs = v :: t ∧ ImmV w imm c v ∧ ImmC w imm cs t
def ImmR (w : World) (imm : Nat → Prop) : List (List LV) → List Value → Prop
  | [], _ => True
  | r :: rs, vs => ImmC w imm r vs ∧ ImmR w imm rs (vs.drop r.length)
end

mutual
/-- A cell of memory of the call's own, and the blocks that it owns. -/
def OwnV (w : World) (imm : Nat → Prop) (loc : Nat → Loc) : LV → Value → List Nat → Prop
  | .undef, v, fp => v.oneCell' = true ∧ fp = []
  | .nil _, v, fp => v = .slice none 0 0 ∧ fp = []
  | .int k n, v, fp => v = .int k n ∧ fp = []
  | .bool b, v, fp => v = .bool b ∧ fp = []
  | .str s, v, fp => v = .string s ∧ fp = []
  | .list es xs, v, fp => ImmV w imm (.list es xs) v ∧ fp = []
  | .arr es xs, v, fp => (xs = [] ∧ fp = [] ∧ ∃ a, v = .slice a 0 0) ∨ ∃ b off cap cs ty fps, v = .slice (some ⟨b, off, none⟩) xs.length cap ∧
      w.heap[b]? = some (.cells cs ty (0, 0)) ∧ 0 < es ∧ (∀ r ∈ xs, r.length = es) ∧ off + cap * es ≤ cs.size ∧ xs.length ≤ cap ∧ fp = b :: fps ∧
      OwnR w imm (fun _ => .dead) xs (cs.toList.drop off) fps
  | .sl es o off len, v, fp => SlRel es (loc o) off len v ∧ fp = []
  | .ptr o e j, v, fp => PtrRel (loc o) e j v ∧ fp = []
  | .fn _ _, v, fp => v.oneCell' = true ∧ fp = []
  | .agg _, v, fp => v.oneCell' = true ∧ fp = []
  | .tup _, v, fp => v.oneCell' = true ∧ fp = []
  | .pimm _, v, fp => v.oneCell' = true ∧ fp = []
def OwnC (w : World) (imm : Nat → Prop) (loc : Nat → Loc) : List LV → List Value → List Nat → Prop
  | [], _, fp => fp = []
  | c :: cs, vs, fp => ∃ v t f1 f2, vs = v :: t ∧ fp = f1 ++ f2 ∧ OwnV w imm loc c v f1 ∧ OwnC w imm loc cs t f2
def OwnR (w : World) (imm : Nat → Prop) (loc : Nat → Loc) : List (List LV) → List Value → List Nat → Prop
  | [], _, fp => fp = []
  | r :: rs, vs, fp => ∃ f1 f2, fp = f1 ++ f2 ∧ OwnC w imm loc r vs f1 ∧ OwnR w imm loc rs (vs.drop r.length) f2
end

mutual
/-- A value in hand. -/
def VRel (w : World) (imm : Nat → Prop) (loc : Nat → Loc) : LV → Value → Prop
  | .undef, _ => True
  | .nil _, v => v = .slice none 0 0
  | .int k n, v => v = .int k n
  | .bool b, v => v = .bool b
  | .str s, v => v = .string s
  | .list es xs, v => ImmV w imm (.list es xs) v
  | .arr _ _, _ => False
  | .sl es o off len, v => SlRel es (loc o) off len v
  | .ptr o e j, v => PtrRel (loc o) e j v
  | .pimm cs, v => ∃ b off cs' ty fr, v = .pointer (some ⟨b, off, none⟩) ∧ imm b ∧ w.heap[b]? = some (.cells cs' ty fr) ∧ ImmC w imm cs (cs'.toList.drop off)
  | .fn f caps, v => ∃ vs : List Value, v = .func (.func f) #[] vs.toArray ∧ VC w imm loc caps vs
  | .agg cs, v => ∃ vs : List Value, v = .agg vs.toArray ∧ (∀ u ∈ vs, u.oneCell' = true) ∧ VC w imm loc cs vs
  | .tup cs, v => ∃ vs : List Value, v = .tuple vs.toArray ∧ VC w imm loc cs vs
def VC (w : World) (imm : Nat → Prop) (loc : Nat → Loc) : List LV → List Value → Prop
  | [], vs => vs = []
  | c :: cs, vs => ∃ v t, vs = v :: t ∧ VRel w imm loc c v ∧ VC w imm loc cs t
end

/-- An object of the heap. -/
def ObjRel (w : World) (imm : Nat → Prop) (loc : Nat → Loc) (x : Rows) (l : Loc) (fp : List Nat) : Prop :=
  match l with
  | .unk => False
  | .dead => False
  | .nil => x = [] ∧ fp = []
  | .at b base esz n sz => x.length = n ∧ 0 < esz ∧ (∀ r ∈ x, r.length = esz) ∧ ∃ cs ty fps, w.heap[b]? = some (.cells cs ty (0, 0)) ∧ cs.size = sz ∧
      base + n * esz ≤ sz ∧ fp = b :: fps ∧ OwnR w imm loc x (cs.toList.drop base) fps

/-! ### What keeps the relations -/
def Same (S : Nat → Prop) (w w' : World) : Prop := ∀ b, S b → w'.heap[b]? = w.heap[b]?

mutual
theorem ImmV_mono {w w' : World} {imm imm' : Nat → Prop} (hs : ∀ b, imm b → imm' b) (hw : Same imm w w') : ∀ (c : LV) (v : Value), ImmV w imm c v → ImmV w' imm' c v
  | .undef, _, h => h
  | .nil _, _, h => h
  | .int _ _, _, h => h
  | .bool _, _, h => h
  | .str _, _, h => h
  | .list es xs, v, h => by
    simp only [ImmV] at h ⊢
    obtain ⟨a, cap, hv, hlc, h⟩ := h
    refine ⟨a, cap, hv, hlc, h.imp id ?_⟩
    rintro ⟨b, off, cs, ty, fr, ha, hi, hb, hl, hr⟩
    exact ⟨b, off, cs, ty, fr, ha, hs b hi, (hw b hi).trans hb, hl, ImmR_mono hs hw xs _ hr⟩
  | .arr es xs, v, h => by
    simp only [ImmV] at h ⊢
    obtain ⟨a, cap, hv, hlc, h⟩ := h
    refine ⟨a, cap, hv, hlc, h.imp id ?_⟩
    rintro ⟨b, off, cs, ty, fr, ha, hi, hb, hl, hr⟩
    exact ⟨b, off, cs, ty, fr, ha, hs b hi, (hw b hi).trans hb, hl, ImmR_mono hs hw xs _ hr⟩
  | .fn _ _, _, h => h
  | .agg _, _, h => h
  | .tup _, _, h => h
  | .sl _ _ _ _, _, h => h
  | .ptr _ _ _, _, h => h
  | .pimm _, _, h => h
theorem ImmC_mono {w w' : World} {imm imm' : Nat → Prop} (hs : ∀ b, imm b → imm' b) (hw : Same imm w w') : ∀ (cs : List LV) (vs : List Value), ImmC w imm cs vs → ImmC w' imm' cs vs
  | [], _, _ => trivial
  | c :: cs, vs, h => by
    simp only [ImmC] at h ⊢
    obtain ⟨v, t, rfl, h1, h2⟩ := h
    exact ⟨v, t, rfl, ImmV_mono hs hw c v h1, ImmC_mono hs hw cs t h2⟩
theorem ImmR_mono {w w' : World} {imm imm' : Nat → Prop} (hs : ∀ b, imm b → imm' b) (hw : Same imm w w') : ∀ (xs : List (List LV)) (vs : List Value), ImmR w imm xs vs → ImmR w' imm' xs vs
  | [], _, _ => trivial
  | r :: rs, vs, h => by
    simp only [ImmR] at h ⊢
    exact ⟨ImmC_mono hs hw r vs h.1, ImmR_mono hs hw rs _ h.2⟩
end

mutual
theorem OwnV_mono {w w' : World} : ∀ (c : LV) (imm imm' : Nat → Prop) (hs : ∀ b, imm b → imm' b) (hw : Same imm w w') (loc : Nat → Loc) (v : Value) (fp : List Nat), Same (· ∈ fp) w w' → OwnV w imm loc c v fp → OwnV w' imm' loc c v fp
  | .undef, _, _, _, _, _, _, _, _, h => h
  | .nil _, _, _, _, _, _, _, _, _, h => h
  | .int _ _, _, _, _, _, _, _, _, _, h => h
  | .bool _, _, _, _, _, _, _, _, _, h => h
  | .str _, _, _, _, _, _, _, _, _, h => h
  | .list es xs, _, _, hs, hw, _, v, _, _, h => by
    simp only [OwnV] at h ⊢
    exact ⟨ImmV_mono hs hw _ _ h.1, h.2⟩
  | .arr es xs, imm, imm', hs, hw, loc, v, fp, hf, h => by
    simp only [OwnV] at h ⊢
    refine h.imp id ?_
    rintro ⟨b, off, cap, cs, ty, fps, hv, hb, h0, hl, hc, hn, rfl, hr⟩
    exact ⟨b, off, cap, cs, ty, fps, hv, (hf b (by simp)).trans hb, h0, hl, hc, hn, rfl, OwnR_mono xs _ _ hs hw _ _ _ (fun k hk => hf k (List.mem_cons_of_mem _ hk)) hr⟩
  | .sl _ _ _ _, _, _, _, _, _, _, _, _, h => h
  | .ptr _ _ _, _, _, _, _, _, _, _, _, h => h
  | .fn _ _, _, _, _, _, _, _, _, _, h => h
  | .agg _, _, _, _, _, _, _, _, _, h => h
  | .tup _, _, _, _, _, _, _, _, _, h => h
  | .pimm _, _, _, _, _, _, _, _, _, h => h
theorem OwnC_mono {w w' : World} : ∀ (cs : List LV) (imm imm' : Nat → Prop) (hs : ∀ b, imm b → imm' b) (hw : Same imm w w') (loc : Nat → Loc) (vs : List Value) (fp : List Nat), Same (· ∈ fp) w w' → OwnC w imm loc cs vs fp → OwnC w' imm' loc cs vs fp
  | [], _, _, _, _, _, _, _, _, h => h
  | c :: cs, _, _, hs, hw, loc, vs, fp, hf, h => by
    simp only [OwnC] at h ⊢
    obtain ⟨v, t, f1, f2, rfl, rfl, h1, h2⟩ := h
    exact ⟨v, t, f1, f2, rfl, rfl, OwnV_mono c _ _ hs hw _ v _ (fun k hk => hf k (List.mem_append_left _ hk)) h1, OwnC_mono cs _ _ hs hw _ t _ (fun k hk => hf k (List.mem_append_right _ hk)) h2⟩
theorem OwnR_mono {w w' : World} : ∀ (xs : List (List LV)) (imm imm' : Nat → Prop) (hs : ∀ b, imm b → imm' b) (hw : Same imm w w') (loc : Nat → Loc) (vs : List Value) (fp : List Nat), Same (· ∈ fp) w w' → OwnR w imm loc xs vs fp → OwnR w' imm' loc xs vs fp
  | [], _, _, _, _, _, _, _, _, h => h
  | r :: rs, _, _, hs, hw, loc, vs, fp, hf, h => by
    simp only [OwnR] at h ⊢
    obtain ⟨f1, f2, rfl, h1, h2⟩ := h
    exact ⟨f1, f2, rfl, OwnC_mono r _ _ hs hw _ vs _ (fun k hk => hf k (List.mem_append_left _ hk)) h1, OwnR_mono rs _ _ hs hw _ _ _ (fun k hk => hf k (List.mem_append_right _ hk)) h2⟩
end

theorem ObjRel_mono {w w' : World} {imm imm' : Nat → Prop} {loc : Nat → Loc} {x : Rows} {l : Loc} {fp : List Nat} (hs : ∀ b, imm b → imm' b) (hw : Same imm w w') (hf : Same (· ∈ fp) w w') (h : ObjRel w imm loc x l fp) : ObjRel w' imm' loc x l fp := by
  unfold ObjRel at *
  split at h
  · exact h
  · exact h
  · exact h
  · obtain ⟨hn, h0, hl, cs, ty, fps, hb, hsz, hle, rfl, hr⟩ := h
    exact ⟨hn, h0, hl, cs, ty, fps, (hf _ (by simp)).trans hb, hsz, hle, rfl, OwnR_mono x _ _ hs hw _ _ _ (fun k hk => hf k (List.mem_cons_of_mem _ hk)) hr⟩

mutual
theorem VRel_mono {w w' : World} {imm imm' : Nat → Prop} {loc : Nat → Loc} (hs : ∀ b, imm b → imm' b) (hw : Same imm w w') : ∀ (c : LV) (v : Value), VRel w imm loc c v → VRel w' imm' loc c v
  | .undef, _, _ => trivial
  | .nil _, _, h => h
  | .int _ _, _, h => h
  | .bool _, _, h => h
  | .str _, _, h => h
  | .list es xs, v, h => ImmV_mono hs hw _ _ h
  | .arr _ _, _, h => h
  | .sl _ _ _ _, _, h => h
  | .ptr _ _ _, _, h => h
  | .pimm cs, v, h => by
    simp only [VRel] at h ⊢
    obtain ⟨b, off, cs', ty, fr, hv, hi, hb, hc⟩ := h
    exact ⟨b, off, cs', ty, fr, hv, hs b hi, (hw b hi).trans hb, ImmC_mono hs hw _ _ hc⟩
  | .fn f caps, v, h => by
    simp only [VRel] at h ⊢
    obtain ⟨vs, hv, hc⟩ := h
    exact ⟨vs, hv, VC_mono hs hw _ _ hc⟩
  | .agg cs, v, h => by
    simp only [VRel] at h ⊢
    obtain ⟨vs, hv, ho, hc⟩ := h
    exact ⟨vs, hv, ho, VC_mono hs hw _ _ hc⟩
  | .tup cs, v, h => by
    simp only [VRel] at h ⊢
    obtain ⟨vs, hv, hc⟩ := h
    exact ⟨vs, hv, VC_mono hs hw _ _ hc⟩
theorem VC_mono {w w' : World} {imm imm' : Nat → Prop} {loc : Nat → Loc} (hs : ∀ b, imm b → imm' b) (hw : Same imm w w') : ∀ (cs : List LV) (vs : List Value), VC w imm loc cs vs → VC w' imm' loc cs vs
  | [], _, h => h
  | c :: cs, vs, h => by
    simp only [VC] at h ⊢
    obtain ⟨v, t, rfl, h1, h2⟩ := h
    exact ⟨v, t, rfl, VRel_mono hs hw c v h1, VC_mono hs hw cs t h2⟩
end

/-! ### The places of objects may turn where no reference looks -/
theorem SlRel_one {es : Nat} {l : Loc} {off len : Nat} {v : Value} (h : SlRel es l off len v) : v.oneCell' = true := by
  cases l with
  | unk => exact h.elim
  | dead => exact h
  | nil => obtain ⟨_, _, a, rfl⟩ := h; rfl
  | «at» b base esz n sz => obtain ⟨_, _, a, cap, rfl, _⟩ := h; rfl
theorem PtrRel_one {l : Loc} {e j : Nat} {v : Value} (h : PtrRel l e j v) : v.oneCell' = true := by
  cases l with
  | unk => exact h.elim
  | dead => exact h
  | nil => exact h.elim
  | «at» b base esz n sz => rw [show v = _ from h]; rfl
mutual
theorem VRel_loc {w : World} {imm : Nat → Prop} {loc loc' : Nat → Loc} (h : ∀ n, loc n = .unk ∨ loc' n = loc n ∨ loc' n = .dead) : ∀ (c : LV) (v : Value), VRel w imm loc c v → VRel w imm loc' c v
  | .undef, _, _ => trivial
  | .nil _, _, k => k
  | .int _ _, _, k => k
  | .bool _, _, k => k
  | .str _, _, k => k
  | .list _ _, _, k => k
  | .arr _ _, _, k => k
  | .sl es o off len, v, k => by
    simp only [VRel] at k ⊢
    rcases h o with e | e | e
    · rw [e] at k; exact k.elim
    · rw [e]; exact k
    · rw [e]; exact SlRel_one k
  | .ptr o e j, v, k => by
    simp only [VRel] at k ⊢
    rcases h o with e | e | e
    · rw [e] at k; exact k.elim
    · rw [e]; exact k
    · rw [e]; exact PtrRel_one k
  | .pimm _, _, k => k
  | .fn f caps, v, k => by
    simp only [VRel] at k ⊢
    obtain ⟨vs, hv, hc⟩ := k
    exact ⟨vs, hv, VC_loc h _ _ hc⟩
  | .agg cs, v, k => by
    simp only [VRel] at k ⊢
    obtain ⟨vs, hv, ho, hc⟩ := k
    exact ⟨vs, hv, ho, VC_loc h _ _ hc⟩
  | .tup cs, v, k => by
    simp only [VRel] at k ⊢
    obtain ⟨vs, hv, hc⟩ := k
    exact ⟨vs, hv, VC_loc h _ _ hc⟩
theorem VC_loc {w : World} {imm : Nat → Prop} {loc loc' : Nat → Loc} (h : ∀ n, loc n = .unk ∨ loc' n = loc n ∨ loc' n = .dead) : ∀ (cs : List LV) (vs : List Value), VC w imm loc cs vs → VC w imm loc' cs vs
  | [], _, k => k
  | c :: cs, vs, k => by
    simp only [VC] at k ⊢
    obtain ⟨v, t, rfl, h1, h2⟩ := k
    exact ⟨v, t, rfl, VRel_loc h c v h1, VC_loc h cs t h2⟩
end
theorem OwnV_loc {w : World} {imm : Nat → Prop} {loc loc' : Nat → Loc} (h : ∀ n, loc n = .unk ∨ loc' n = loc n ∨ loc' n = .dead) (c : LV) (v : Value) (fp : List Nat) (k : OwnV w imm loc c v fp) : OwnV w imm loc' c v fp := by
  cases c <;> simp only [OwnV] at k ⊢ <;> first
    | exact k
    | (rename_i o _ _
       refine ⟨?_, k.2⟩
       rcases h o with e | e | e
       · rw [e] at k; exact k.1.elim
       · rw [e]; exact k.1
       · rw [e]; first | exact SlRel_one k.1 | exact PtrRel_one k.1)
theorem OwnC_loc {w : World} {imm : Nat → Prop} {loc loc' : Nat → Loc} (h : ∀ n, loc n = .unk ∨ loc' n = loc n ∨ loc' n = .dead) : ∀ (cs : List LV) (vs : List Value) (fp : List Nat), OwnC w imm loc cs vs fp → OwnC w imm loc' cs vs fp
  | [], _, _, k => k
  | c :: cs, vs, fp, k => by
    simp only [OwnC] at k ⊢
    obtain ⟨v, t, f1, f2, rfl, rfl, h1, h2⟩ := k
    exact ⟨v, t, f1, f2, rfl, rfl, OwnV_loc h c v f1 h1, OwnC_loc h cs t f2 h2⟩
theorem OwnR_loc {w : World} {imm : Nat → Prop} {loc loc' : Nat → Loc} (h : ∀ n, loc n = .unk ∨ loc' n = loc n ∨ loc' n = .dead) : ∀ (xs : List (List LV)) (vs : List Value) (fp : List Nat), OwnR w imm loc xs vs fp → OwnR w imm loc' xs vs fp
  | [], _, _, k => k
  | r :: rs, vs, fp, k => by
    simp only [OwnR] at k ⊢
    obtain ⟨f1, f2, rfl, h1, h2⟩ := k
    exact ⟨f1, f2, rfl, OwnC_loc h r vs f1 h1, OwnR_loc h rs _ f2 h2⟩

/-- Plain cells don't look at the places at all. -/
theorem OwnV_plain {w : World} {imm : Nat → Prop} {loc loc' : Nat → Loc} (c : LV) (hp : c.plain = true) (v : Value) (fp : List Nat) (k : OwnV w imm loc c v fp) : OwnV w imm loc' c v fp := by
  cases c <;> first
    | (simp only [OwnV] at k ⊢; exact k)
    | (simp [LV.plain] at hp)
theorem OwnC_plain {w : World} {imm : Nat → Prop} {loc loc' : Nat → Loc} : ∀ (cs : List LV) (hp : cs.all LV.plain = true) (vs : List Value) (fp : List Nat), OwnC w imm loc cs vs fp → OwnC w imm loc' cs vs fp
  | [], _, _, _, k => k
  | c :: cs, hp, vs, fp, k => by
    simp only [List.all_cons, Bool.and_eq_true] at hp
    simp only [OwnC] at k ⊢
    obtain ⟨v, t, f1, f2, rfl, rfl, h1, h2⟩ := k
    exact ⟨v, t, f1, f2, rfl, rfl, OwnV_plain c hp.1 v f1 h1, OwnC_plain cs hp.2 t f2 h2⟩
theorem OwnR_plain {w : World} {imm : Nat → Prop} {loc loc' : Nat → Loc} : ∀ (xs : List (List LV)) (hp : rowsPlain xs = true) (vs : List Value) (fp : List Nat), OwnR w imm loc xs vs fp → OwnR w imm loc' xs vs fp
  | [], _, _, _, k => k
  | r :: rs, hp, vs, fp, k => by
    simp only [rowsPlain, List.all_cons, Bool.and_eq_true] at hp
    simp only [OwnR] at k ⊢
    obtain ⟨f1, f2, rfl, h1, h2⟩ := k
    exact ⟨f1, f2, rfl, OwnC_plain r hp.1 vs f1 h1, OwnR_plain rs hp.2 _ f2 h2⟩
theorem ObjRel_plain {w : World} {imm : Nat → Prop} {loc loc' : Nat → Loc} {x : Rows} {l : Loc} {fp : List Nat} (hp : rowsPlain x = true) (h : ObjRel w imm loc x l fp) : ObjRel w imm loc' x l fp := by
  unfold ObjRel at *
  split at h
  · exact h
  · exact h
  · exact h
  · obtain ⟨hn, h0, hl, cs, ty, fps, hb, hsz, hle, rfl, hr⟩ := h
    exact ⟨hn, h0, hl, cs, ty, fps, hb, hsz, hle, rfl, OwnR_plain x hp _ _ hr⟩

/-! Cells without a part that is only read. -/
mutual
theorem OwnV_pure {w : World} {imm imm' : Nat → Prop} {loc loc' : Nat → Loc} : ∀ (c : LV) (hp : c.pure = true) (v : Value) (fp : List Nat), OwnV w imm loc c v fp → OwnV w imm' loc' c v fp
  | .undef, _, _, _, k => k
  | .nil _, _, _, _, k => k
  | .int _ _, _, _, _, k => k
  | .bool _, _, _, _, k => k
  | .str _, _, _, _, k => k
  | .arr es xs, hp, v, fp, k => by
    simp only [LV.pure] at hp
    simp only [OwnV] at k ⊢
    refine k.imp id ?_
    rintro ⟨b, off, cap, cs, ty, fps, hv, hb, h0, hl, hc, hn, rfl, hr⟩
    exact ⟨b, off, cap, cs, ty, fps, hv, hb, h0, hl, hc, hn, rfl, OwnR_pure xs hp _ _ hr⟩
  | .list _ _, hp, _, _, _ => by simp [LV.pure] at hp
  | .fn _ _, hp, _, _, _ => by simp [LV.pure] at hp
  | .agg _, hp, _, _, _ => by simp [LV.pure] at hp
  | .tup _, hp, _, _, _ => by simp [LV.pure] at hp
  | .sl _ _ _ _, hp, _, _, _ => by simp [LV.pure] at hp
  | .ptr _ _ _, hp, _, _, _ => by simp [LV.pure] at hp
  | .pimm _, hp, _, _, _ => by simp [LV.pure] at hp
theorem OwnC_pure {w : World} {imm imm' : Nat → Prop} {loc loc' : Nat → Loc} : ∀ (cs : List LV) (hp : pureC cs = true) (vs : List Value) (fp : List Nat), OwnC w imm loc cs vs fp → OwnC w imm' loc' cs vs fp
  | [], _, _, _, k => k
  | c :: cs, hp, vs, fp, k => by
    simp only [pureC, Bool.and_eq_true] at hp
    simp only [OwnC] at k ⊢
    obtain ⟨v, t, f1, f2, e1, e2, h1, h2⟩ := k
    exact ⟨v, t, f1, f2, e1, e2, OwnV_pure c hp.1 v f1 h1, OwnC_pure cs hp.2 t f2 h2⟩
theorem OwnR_pure {w : World} {imm imm' : Nat → Prop} {loc loc' : Nat → Loc} : ∀ (xs : List (List LV)) (hp : pureR xs = true) (vs : List Value) (fp : List Nat), OwnR w imm loc xs vs fp → OwnR w imm' loc' xs vs fp
  | [], _, _, _, k => k
  | r :: rs, hp, vs, fp, k => by
    simp only [pureR, Bool.and_eq_true] at hp
    simp only [OwnR] at k ⊢
    obtain ⟨f1, f2, e1, h1, h2⟩ := k
    exact ⟨f1, f2, e1, OwnC_pure r hp.1 vs f1 h1, OwnR_pure rs hp.2 _ f2 h2⟩
end
/-- Rows that are taken over: what they read is still only read, or they read nothing. -/
theorem OwnR_take {w : World} {imm imm' : Nat → Prop} {loc loc' : Nat → Loc} {xs : Rows} (hp : rowsPlain xs = true) (hi : (∀ b, imm b → imm' b) ∨ pureR xs = true) {vs : List Value} {fp : List Nat} (h : OwnR w imm loc xs vs fp) : OwnR w imm' loc' xs vs fp := by
  rcases hi with hi | hi
  · exact OwnR_plain xs hp _ _ (OwnR_mono xs imm imm' hi (fun _ _ => rfl) loc vs fp (fun _ _ => rfl) h)
  · exact OwnR_pure xs hi _ _ h
theorem ObjRel_take {w : World} {imm imm' : Nat → Prop} {loc loc' : Nat → Loc} {x : Rows} {l : Loc} {fp : List Nat} (hp : rowsPlain x = true) (hi : (∀ b, imm b → imm' b) ∨ pureR x = true) (h : ObjRel w imm loc x l fp) : ObjRel w imm' loc' x l fp := by
  unfold ObjRel at *
  split at h
  · exact h
  · exact h
  · exact h
  · obtain ⟨hn, h0, hl, cs, ty, fps, hb, hsz, hle, rfl, hr⟩ := h
    exact ⟨hn, h0, hl, cs, ty, fps, hb, hsz, hle, rfl, OwnR_take hp hi hr⟩
theorem ObjRel_loc {w : World} {imm : Nat → Prop} {loc loc' : Nat → Loc} {x : Rows} {l : Loc} {fp : List Nat} (hl : ∀ n, loc n = .unk ∨ loc' n = loc n ∨ loc' n = .dead) (h : ObjRel w imm loc x l fp) : ObjRel w imm loc' x l fp := by
  unfold ObjRel at *
  split at h
  · exact h
  · exact h
  · exact h
  · obtain ⟨hn, h0, hr, cs, ty, fps, hb, hsz, hle, rfl, k⟩ := h
    exact ⟨hn, h0, hr, cs, ty, fps, hb, hsz, hle, rfl, OwnR_loc hl x _ _ k⟩

/-! ### Parts of lists -/
theorem ImmC_get {w : World} {imm : Nat → Prop} : ∀ {cs : List LV} {vs : List Value} {j : Nat} {c : LV}, ImmC w imm cs vs → cs[j]? = some c → ∃ v, vs[j]? = some v ∧ ImmV w imm c v
  | [], _, _, _, _, h => by simp at h
  | a :: cs, vs, 0, c, h, e => by
    simp only [ImmC] at h
    obtain ⟨v, t, rfl, h1, _⟩ := h
    simp at e
    subst e
    exact ⟨v, by simp, h1⟩
  | a :: cs, vs, j + 1, c, h, e => by
    simp only [ImmC] at h
    obtain ⟨v, t, rfl, _, h2⟩ := h
    obtain ⟨u, hu, k⟩ := ImmC_get h2 (by simpa using e)
    exact ⟨u, by simpa using hu, k⟩
theorem ImmC_drop {w : World} {imm : Nat → Prop} : ∀ {cs : List LV} {vs : List Value} (j : Nat), ImmC w imm cs vs → ImmC w imm (cs.drop j) (vs.drop j)
  | cs, vs, 0, h => by simpa using h
  | [], vs, j + 1, h => by simp [ImmC]
  | c :: cs, vs, j + 1, h => by
    simp only [ImmC] at h
    obtain ⟨v, t, rfl, _, h2⟩ := h
    simpa using ImmC_drop j h2
theorem ImmC_take {w : World} {imm : Nat → Prop} : ∀ {cs : List LV} {vs : List Value} (n : Nat), ImmC w imm cs vs → ImmC w imm (cs.take n) vs
  | cs, vs, 0, h => by simp [ImmC]
  | [], vs, n + 1, h => by simp [ImmC]
  | c :: cs, vs, n + 1, h => by
    simp only [ImmC] at h
    obtain ⟨v, t, rfl, h1, h2⟩ := h
    simp only [List.take_succ_cons, ImmC]
    exact ⟨v, t, rfl, h1, ImmC_take n h2⟩
theorem ImmC_len {w : World} {imm : Nat → Prop} : ∀ {cs : List LV} {vs : List Value}, ImmC w imm cs vs → cs.length ≤ vs.length
  | [], _, _ => by simp
  | c :: cs, vs, h => by
    simp only [ImmC] at h
    obtain ⟨v, t, rfl, _, h2⟩ := h
    have := ImmC_len h2
    simp
    omega
theorem ImmR_get {w : World} {imm : Nat → Prop} {esz : Nat} : ∀ {xs : Rows} {vs : List Value} {i : Nat} {r : Row}, (∀ r ∈ xs, r.length = esz) → ImmR w imm xs vs → xs[i]? = some r → ImmC w imm r (vs.drop (i * esz))
  | [], _, _, _, _, _, h => by simp at h
  | a :: xs, vs, 0, r, hl, h, e => by
    simp at e
    subst e
    simp only [ImmR] at h
    simpa using h.1
  | a :: xs, vs, i + 1, r, hl, h, e => by
    simp only [ImmR] at h
    have := ImmR_get (fun r hr => hl r (List.mem_cons_of_mem _ hr)) h.2 (i := i) (r := r) (by simpa using e)
    rw [hl a (by simp), List.drop_drop] at this
    rw [show (i + 1) * esz = esz + i * esz by rw [Nat.succ_mul, Nat.add_comm]]
    exact this
theorem ImmR_drop {w : World} {imm : Nat → Prop} {esz : Nat} : ∀ {xs : Rows} {vs : List Value} (i : Nat), i ≤ xs.length → (∀ r ∈ xs, r.length = esz) → ImmR w imm xs vs → ImmR w imm (xs.drop i) (vs.drop (i * esz))
  | xs, vs, 0, _, _, h => by simpa using h
  | [], vs, i + 1, hi, _, h => by simp at hi
  | a :: xs, vs, i + 1, hi, hl, h => by
    simp only [ImmR] at h
    have := ImmR_drop i (by simpa using hi) (fun r hr => hl r (List.mem_cons_of_mem _ hr)) h.2
    rw [hl a (by simp), List.drop_drop] at this
    rw [show (i + 1) * esz = esz + i * esz by rw [Nat.succ_mul, Nat.add_comm]]
    simpa using this
theorem ImmR_take {w : World} {imm : Nat → Prop} : ∀ {xs : Rows} {vs : List Value} (n : Nat), ImmR w imm xs vs → ImmR w imm (xs.take n) vs
  | xs, vs, 0, h => by simp [ImmR]
  | [], vs, n + 1, h => by simp [ImmR]
  | a :: xs, vs, n + 1, h => by
    simp only [ImmR, List.take_succ_cons] at h ⊢
    exact ⟨h.1, ImmR_take n h.2⟩

theorem OwnC_get {w : World} {imm : Nat → Prop} {loc : Nat → Loc} : ∀ {cs : List LV} {vs : List Value} {fp : List Nat} {j : Nat} {c : LV}, OwnC w imm loc cs vs fp → cs[j]? = some c → ∃ v f, vs[j]? = some v ∧ (∀ b ∈ f, b ∈ fp) ∧ OwnV w imm loc c v f
  | [], _, _, _, _, _, h => by simp at h
  | a :: cs, vs, fp, 0, c, h, e => by
    simp only [OwnC] at h
    obtain ⟨v, t, f1, f2, rfl, rfl, h1, _⟩ := h
    simp at e
    subst e
    exact ⟨v, f1, by simp, fun b hb => List.mem_append_left _ hb, h1⟩
  | a :: cs, vs, fp, j + 1, c, h, e => by
    simp only [OwnC] at h
    obtain ⟨v, t, f1, f2, rfl, rfl, _, h2⟩ := h
    obtain ⟨u, f, hu, hf, k⟩ := OwnC_get h2 (by simpa using e)
    exact ⟨u, f, by simpa using hu, fun b hb => List.mem_append_right _ (hf b hb), k⟩
theorem OwnC_len {w : World} {imm : Nat → Prop} {loc : Nat → Loc} : ∀ {cs : List LV} {vs : List Value} {fp : List Nat}, OwnC w imm loc cs vs fp → cs.length ≤ vs.length
  | [], _, _, _ => by simp
  | c :: cs, vs, fp, h => by
    simp only [OwnC] at h
    obtain ⟨v, t, f1, f2, rfl, rfl, _, h2⟩ := h
    have := OwnC_len h2
    simp
    omega
/-- Cells of a row parted: what stands ahead of a place, and what behind it. -/
theorem OwnC_split {w : World} {imm : Nat → Prop} {loc : Nat → Loc} : ∀ {cs : List LV} {vs : List Value} {fp : List Nat} (j : Nat), j ≤ cs.length → OwnC w imm loc cs vs fp →
    ∃ f1 f2, fp = f1 ++ f2 ∧ OwnC w imm loc (cs.take j) vs f1 ∧ OwnC w imm loc (cs.drop j) (vs.drop j) f2
  | cs, vs, fp, 0, _, h => ⟨[], fp, by simp, by simp [OwnC], by simpa using h⟩
  | [], vs, fp, j + 1, hj, h => by simp at hj
  | c :: cs, vs, fp, j + 1, hj, h => by
    simp only [OwnC] at h
    obtain ⟨v, t, f1, f2, rfl, rfl, h1, h2⟩ := h
    obtain ⟨g1, g2, rfl, k1, k2⟩ := OwnC_split j (by simpa using hj) h2
    refine ⟨f1 ++ g1, g2, by simp, ?_, by simpa using k2⟩
    simp only [List.take_succ_cons, OwnC]
    exact ⟨v, t, f1, g1, rfl, rfl, h1, k1⟩
theorem OwnC_join {w : World} {imm : Nat → Prop} {loc : Nat → Loc} : ∀ {as bs : List LV} {vs : List Value} {f1 f2 : List Nat}, OwnC w imm loc as vs f1 → OwnC w imm loc bs (vs.drop as.length) f2 → OwnC w imm loc (as ++ bs) vs (f1 ++ f2)
  | [], bs, vs, f1, f2, h, k => by
    simp only [OwnC] at h
    subst h
    simpa using k
  | a :: as, bs, vs, f1, f2, h, k => by
    simp only [OwnC] at h
    obtain ⟨v, t, g1, g2, rfl, rfl, h1, h2⟩ := h
    simp only [List.cons_append, OwnC]
    exact ⟨v, t, g1, g2 ++ f2, rfl, by simp, h1, OwnC_join h2 (by simpa using k)⟩
/-- Only the values at its own places count. -/
theorem OwnC_vals {w : World} {imm : Nat → Prop} {loc : Nat → Loc} : ∀ {cs : List LV} {vs vs' : List Value} {fp : List Nat}, vs'.take cs.length = vs.take cs.length → OwnC w imm loc cs vs fp → OwnC w imm loc cs vs' fp
  | [], _, _, _, _, h => h
  | c :: cs, vs, vs', fp, e, h => by
    simp only [OwnC] at h ⊢
    obtain ⟨v, t, f1, f2, rfl, rfl, h1, h2⟩ := h
    cases vs' with
    | nil => simp at e
    | cons v' t' =>
      simp only [List.length_cons, List.take_succ_cons, List.cons.injEq] at e
      obtain ⟨rfl, e⟩ := e
      exact ⟨v', t', f1, f2, rfl, rfl, h1, OwnC_vals e h2⟩
theorem ImmC_vals {w : World} {imm : Nat → Prop} : ∀ {cs : List LV} {vs vs' : List Value}, vs'.take cs.length = vs.take cs.length → ImmC w imm cs vs → ImmC w imm cs vs'
  | [], _, _, _, h => h
  | c :: cs, vs, vs', e, h => by
    simp only [ImmC] at h ⊢
    obtain ⟨v, t, rfl, h1, h2⟩ := h
    cases vs' with
    | nil => simp at e
    | cons v' t' =>
      simp only [List.length_cons, List.take_succ_cons, List.cons.injEq] at e
      obtain ⟨rfl, e⟩ := e
      exact ⟨v', t', rfl, h1, ImmC_vals e h2⟩
def totLen (xs : Rows) : Nat := (xs.map List.length).sum
theorem totLen_eq {esz : Nat} : ∀ {xs : Rows}, (∀ r ∈ xs, r.length = esz) → totLen xs = xs.length * esz
  | [], _ => by simp [totLen]
  | a :: xs, h => by
    have := totLen_eq (xs := xs) (fun r hr => h r (List.mem_cons_of_mem _ hr))
    simp only [totLen, List.map_cons, List.sum_cons, List.length_cons] at this ⊢
    rw [this, h a (by simp), Nat.succ_mul, Nat.add_comm]
theorem OwnR_vals {w : World} {imm : Nat → Prop} {loc : Nat → Loc} : ∀ {xs : Rows} {vs vs' : List Value} {fp : List Nat}, vs'.take (totLen xs) = vs.take (totLen xs) → OwnR w imm loc xs vs fp → OwnR w imm loc xs vs' fp
  | [], _, _, _, _, h => h
  | r :: rs, vs, vs', fp, e, h => by
    simp only [OwnR] at h ⊢
    obtain ⟨f1, f2, rfl, h1, h2⟩ := h
    have e0 : totLen (r :: rs) = r.length + totLen rs := by simp [totLen]
    rw [e0] at e
    refine ⟨f1, f2, rfl, OwnC_vals ?_ h1, OwnR_vals ?_ h2⟩
    · have := congrArg (List.take r.length) e
      simpa [List.take_take] using this
    · have := congrArg (List.drop r.length) e
      simpa [List.drop_take] using this
theorem OwnR_split {w : World} {imm : Nat → Prop} {loc : Nat → Loc} {esz : Nat} : ∀ {xs : Rows} {vs : List Value} {fp : List Nat} (i : Nat), i ≤ xs.length → (∀ r ∈ xs, r.length = esz) → OwnR w imm loc xs vs fp →
    ∃ f1 f2, fp = f1 ++ f2 ∧ OwnR w imm loc (xs.take i) vs f1 ∧ OwnR w imm loc (xs.drop i) (vs.drop (i * esz)) f2
  | xs, vs, fp, 0, _, _, h => ⟨[], fp, by simp, by simp [OwnR], by simpa using h⟩
  | [], vs, fp, i + 1, hi, _, h => by simp at hi
  | r :: rs, vs, fp, i + 1, hi, hl, h => by
    simp only [OwnR] at h
    obtain ⟨f1, f2, rfl, h1, h2⟩ := h
    obtain ⟨g1, g2, rfl, k1, k2⟩ := OwnR_split i (by simpa using hi) (fun r hr => hl r (List.mem_cons_of_mem _ hr)) h2
    refine ⟨f1 ++ g1, g2, by simp, ?_, ?_⟩
    · simp only [List.take_succ_cons, OwnR]
      exact ⟨f1, g1, rfl, h1, k1⟩
    · rw [hl r (by simp), List.drop_drop] at k2
      rw [show (i + 1) * esz = esz + i * esz by rw [Nat.succ_mul, Nat.add_comm]]
      simpa using k2
theorem OwnR_join {w : World} {imm : Nat → Prop} {loc : Nat → Loc} : ∀ {as bs : Rows} {vs : List Value} {f1 f2 : List Nat}, OwnR w imm loc as vs f1 → OwnR w imm loc bs (vs.drop (totLen as)) f2 → OwnR w imm loc (as ++ bs) vs (f1 ++ f2)
  | [], bs, vs, f1, f2, h, k => by
    simp only [OwnR] at h
    subst h
    simpa [totLen] using k
  | a :: as, bs, vs, f1, f2, h, k => by
    simp only [OwnR] at h
    obtain ⟨g1, g2, rfl, h1, h2⟩ := h
    simp only [List.cons_append, OwnR]
    refine ⟨g1, g2 ++ f2, by simp, h1, OwnR_join h2 ?_⟩
    have e0 : totLen (a :: as) = a.length + totLen as := by simp [totLen]
    rw [e0, ← List.drop_drop] at k
    exact k
theorem OwnR_len {w : World} {imm : Nat → Prop} {loc : Nat → Loc} : ∀ {xs : Rows} {vs : List Value} {fp : List Nat}, OwnR w imm loc xs vs fp → xs = [] ∨ totLen xs ≤ vs.length
  | [], _, _, _ => .inl rfl
  | r :: rs, vs, fp, h => by
    simp only [OwnR] at h
    obtain ⟨f1, f2, rfl, h1, h2⟩ := h
    have e0 : totLen (r :: rs) = r.length + totLen rs := by simp [totLen]
    have a := OwnC_len h1
    rcases OwnR_len h2 with rfl | b
    · right
      rw [e0]
      simp [totLen]
      exact a
    · right
      rw [e0]
      simp at b
      omega

/-! ### From owned to read -/
mutual
theorem Own_ImmV {w : World} (imm' : Nat → Prop) : ∀ (c : LV) (imm : Nat → Prop) (hi : ∀ b, imm b → imm' b) (v : Value) (fp : List Nat) (loc : Nat → Loc), (∀ b ∈ fp, imm' b) → OwnV w imm loc c v fp → ImmV w imm' c v
  | .undef, _, _, _, _, _, _, h => h.1
  | .nil _, _, _, _, _, _, _, h => h.1
  | .int _ _, _, _, _, _, _, _, h => h.1
  | .bool _, _, _, _, _, _, _, h => h.1
  | .str _, _, _, _, _, _, _, h => h.1
  | .list es xs, _, hi, v, fp, _, _, h => by
    simp only [OwnV] at h
    exact ImmV_mono hi (fun _ _ => rfl) _ _ h.1
  | .arr es xs, _, hi, v, fp, _, hf, h => by
    simp only [OwnV] at h
    simp only [ImmV]
    rcases h with ⟨rfl, _, a, rfl⟩ | ⟨b, off, cap, cs, ty, fps, rfl, hb, h0, hl, hc, hn, rfl, hr⟩
    · exact ⟨a, 0, rfl, by simp, .inl rfl⟩
    · exact ⟨_, cap, rfl, hn, .inr ⟨b, off, cs, ty, (0, 0), rfl, hf b (by simp), hb, hl, Own_ImmR imm' xs _ hi _ _ _ (fun k hk => hf k (List.mem_cons_of_mem _ hk)) hr⟩⟩
  | .fn _ _, _, _, _, _, _, _, h => h.1
  | .agg _, _, _, _, _, _, _, h => h.1
  | .tup _, _, _, _, _, _, _, h => h.1
  | .sl _ _ _ _, _, _, _, _, _, _, h => SlRel_one h.1
  | .ptr _ _ _, _, _, _, _, _, _, h => PtrRel_one h.1
  | .pimm _, _, _, _, _, _, _, h => h.1
theorem Own_ImmC {w : World} (imm' : Nat → Prop) : ∀ (cs : List LV) (imm : Nat → Prop) (hi : ∀ b, imm b → imm' b) (vs : List Value) (fp : List Nat) (loc : Nat → Loc), (∀ b ∈ fp, imm' b) → OwnC w imm loc cs vs fp → ImmC w imm' cs vs
  | [], _, _, _, _, _, _, _ => trivial
  | c :: cs, _, hi, vs, fp, _, hf, h => by
    simp only [OwnC] at h
    simp only [ImmC]
    obtain ⟨v, t, f1, f2, rfl, rfl, h1, h2⟩ := h
    exact ⟨v, t, rfl, Own_ImmV imm' c _ hi v f1 _ (fun k hk => hf k (List.mem_append_left _ hk)) h1, Own_ImmC imm' cs _ hi t f2 _ (fun k hk => hf k (List.mem_append_right _ hk)) h2⟩
theorem Own_ImmR {w : World} (imm' : Nat → Prop) : ∀ (xs : List (List LV)) (imm : Nat → Prop) (hi : ∀ b, imm b → imm' b) (vs : List Value) (fp : List Nat) (loc : Nat → Loc), (∀ b ∈ fp, imm' b) → OwnR w imm loc xs vs fp → ImmR w imm' xs vs
  | [], _, _, _, _, _, _, _ => trivial
  | r :: rs, _, hi, vs, fp, _, hf, h => by
    simp only [OwnR] at h
    simp only [ImmR]
    obtain ⟨f1, f2, rfl, h1, h2⟩ := h
    exact ⟨Own_ImmC imm' r _ hi vs f1 _ (fun k hk => hf k (List.mem_append_left _ hk)) h1, Own_ImmR imm' rs _ hi _ f2 _ (fun k hk => hf k (List.mem_append_right _ hk)) h2⟩
end

theorem ImmV_one {w : World} {imm : Nat → Prop} {c : LV} {v : Value} (h : ImmV w imm c v) : v.oneCell' = true := by
  cases c <;> simp only [ImmV] at h <;> first
    | exact h
    | (rw [h]; rfl)
    | (obtain ⟨a, cap, rfl, _⟩ := h; rfl)
theorem OwnV_one {w : World} {imm : Nat → Prop} {loc : Nat → Loc} {c : LV} {v : Value} {fp : List Nat} (h : OwnV w imm loc c v fp) : v.oneCell' = true := by
  cases c <;> simp only [OwnV] at h <;> first
    | exact h.1
    | (rw [h.1]; rfl)
    | exact ImmV_one h.1
    | exact SlRel_one h.1
    | exact PtrRel_one h.1
    | (rcases h with ⟨_, _, a, rfl⟩ | ⟨b, off, cap, cs, ty, fps, rfl, _⟩ <;> rfl)

end Go.Lev
