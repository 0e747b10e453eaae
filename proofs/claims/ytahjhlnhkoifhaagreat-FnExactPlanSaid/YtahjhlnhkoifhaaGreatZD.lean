/- How a state of the machine stands to a logical one; and the steps by which that is kept. -/
import Derived.Test.YtahjhlnhkoifhaaGreatZC
set_option linter.unusedVariables false
set_option linter.unusedSimpArgs false
namespace Go.Lev

structure Ctx where
  w0 : World
  nt : Nat
  O0 : List Nat
  imm0 : Nat → Prop
  loc0 : Nat → Loc
  hi : ∀ b, imm0 b → b < w0.heap.size ∧ b ∉ O0
  ho : ∀ b, b ∈ O0 → b < w0.heap.size

def Im (c : Ctx) (J : Nat → Prop) (b : Nat) : Prop := c.imm0 b ∨ J b
def upd {α : Type} (f : Nat → α) (n : Nat) (x : α) : Nat → α := fun m => if m = n then x else f m

structure SRx (c : Ctx) (J : Nat → Prop) (loc : Nat → Loc) (φ : Nat → List Nat) (env : Env) (H : Heap) (a : Act) (w : World) : Prop where
  os : w.os = c.w0.os
  tape : w.tape = c.w0.tape
  output : w.output = c.w0.output
  size : c.w0.heap.size ≤ w.heap.size
  old : ∀ b, b < c.w0.heap.size → b ∉ c.O0 → w.heap[b]? = c.w0.heap[b]?
  jin : ∀ b, J b → c.w0.heap.size ≤ b ∧ b < w.heap.size
  obj : HRel w (Im c J) loc φ H
  rng : ∀ n x, live H n = some x → ∀ b, b ∈ φ n → (b ∈ c.O0 ∨ c.w0.heap.size ≤ b) ∧ b < w.heap.size ∧ ¬ J b
  nodup : ∀ n x, live H n = some x → (φ n).Nodup
  disj : ∀ n m x y, n ≠ m → live H n = some x → live H m = some y → ∀ b, b ∈ φ n → b ∉ φ m
  env : EnvRel w (Im c J) loc env a
  nt : a.tmps.size = c.nt
  df : a.defers = []
  nodead : ∀ n, loc n ≠ .dead
  unk : ∀ n, n < 900000 → look H n = none → loc n = .unk
  lent : ∀ n, 900000 ≤ n → loc n = c.loc0 n

def SR (c : Ctx) (env : Env) (H : Heap) (a : Act) (w : World) : Prop := ∃ J loc φ, SRx c J loc φ env H a w

section
variable {c : Ctx} {J : Nat → Prop} {loc : Nat → Loc} {φ : Nat → List Nat} {env : Env} {H : Heap} {a : Act} {w : World}

theorem SRx.imm_lt (h : SRx c J loc φ env H a w) {b : Nat} (hb : Im c J b) : b < w.heap.size := by
  rcases hb with hb | hb
  · exact Nat.lt_of_lt_of_le (c.hi b hb).1 h.size
  · exact (h.jin b hb).2
/-- No block of an object is memory that nobody writes. -/
theorem SRx.not_imm (h : SRx c J loc φ env H a w) {n : Nat} {x : Rows} (hn : live H n = some x) {b : Nat} (hb : b ∈ φ n) : ¬ Im c J b := by
  obtain ⟨h1, h2, h3⟩ := h.rng n x hn b hb
  rintro (k | k)
  · obtain ⟨k1, k2⟩ := c.hi b k
    rcases h1 with h1 | h1
    · exact k2 h1
    · omega
  · exact h3 k

theorem look_cons {α : Type} (k : Nat) (v : α) (r : List (Nat × α)) (n : Nat) : look ((k, v) :: r) n = if n = k then some v else look r n := rfl
theorem live_cons (k : Nat) (v : Option Rows) (H : Heap) (n : Nat) : live ((k, v) :: H) n = if n = k then v else live H n := by
  unfold live
  rw [look_cons]
  split <;> rfl

theorem SRx.put (h : SRx c J loc φ env H a w) {d : Nat} {v : Value} {lv : LV} (hd : d < c.nt) (hv : VRel w (Im c J) loc lv v) : SRx c J loc φ ((d, lv) :: env) H (a.put (some d) v) w := by
  refine { h with env := ?_, nt := ?_, df := ?_ }
  · intro s u hs
    rw [look_cons] at hs
    split at hs
    · rename_i e
      subst e
      obtain rfl := Option.some.inj hs
      have : s < a.tmps.size := by rw [h.nt]; exact hd
      simpa [Act.put, Array.getD_eq_getD_getElem?, this] using hv
    · rename_i e
      have := h.env s u hs
      have hne : d ≠ s := fun k => e k.symm
      simpa [Act.put, Array.getD_eq_getD_getElem?, Array.getElem?_setIfInBounds_ne hne] using this
  · simp [Act.put, h.nt]
  · exact h.df
theorem SRx.put_none (h : SRx c J loc φ env H a w) (v : Value) : SRx c J loc φ env H (a.put none v) w := h
/-- A slot of which nothing is said any more. -/
theorem SRx.forget (h : SRx c J loc φ env H a w) {d : Nat} (v : Value) : SRx c J loc φ ((d, .undef) :: env) H (a.put (some d) v) w := by
  refine { h with env := ?_, nt := ?_, df := ?_ }
  · intro s u hs
    rw [look_cons] at hs
    split at hs
    · obtain rfl := Option.some.inj hs
      trivial
    · rename_i e
      have := h.env s u hs
      have hne : d ≠ s := fun k => e k.symm
      simpa [Act.put, Array.getD_eq_getD_getElem?, Array.getElem?_setIfInBounds_ne hne] using this
  · simp [Act.put, h.nt]
  · exact h.df
theorem SRx.weaken (h : SRx c J loc φ env H a w) {env' : Env} (he : ∀ s v, look env' s = some v → v = .undef ∨ look env s = some v) : SRx c J loc φ env' H a w := by
  refine { h with env := ?_ }
  intro s v hs
  rcases he s v hs with rfl | k
  · trivial
  · exact h.env s v k

theorem SRx.sameLook (h : SRx c J loc φ env H a w) {H' : Heap} (hl : ∀ n, look H' n = look H n) : SRx c J loc φ env H' a w := by
  have hv : ∀ n, live H' n = live H n := fun n => by unfold live; rw [hl]
  refine { h with obj := ?_, rng := ?_, nodup := ?_, disj := ?_, unk := ?_ }
  · intro n x hn; exact h.obj n x (by rw [← hv]; exact hn)
  · intro n x hn; exact h.rng n x (by rw [← hv]; exact hn)
  · intro n x hn; exact h.nodup n x (by rw [← hv]; exact hn)
  · intro n m x y hne hn hm; exact h.disj n m x y hne (by rw [← hv]; exact hn) (by rw [← hv]; exact hm)
  · intro n hn hk; exact h.unk n hn (by rw [← hl]; exact hk)

theorem SRx.kill (h : SRx c J loc φ env H a w) (k : Nat) : SRx c J loc φ env ((k, none) :: H) a w := by
  have hv : ∀ n x, live ((k, none) :: H) n = some x → live H n = some x := by
    intro n x hn
    rw [live_cons] at hn
    split at hn
    · cases hn
    · exact hn
  refine { h with obj := ?_, rng := ?_, nodup := ?_, disj := ?_, unk := ?_ }
  · intro n x hn; exact h.obj n x (hv n x hn)
  · intro n x hn; exact h.rng n x (hv n x hn)
  · intro n x hn; exact h.nodup n x (hv n x hn)
  · intro n m x y hne hn hm; exact h.disj n m x y hne (hv n x hn) (hv m y hm)
  · intro n hn hk
    rw [look_cons] at hk
    split at hk
    · cases hk
    · exact h.unk n hn hk

/-- The world goes on: what is owned, read or old stays as it was. -/
theorem SRx.world (h : SRx c J loc φ env H a w) {w' : World} (ho : w'.os = w.os) (ht : w'.tape = w.tape) (hu : w'.output = w.output) (hz : w.heap.size ≤ w'.heap.size)
    (hs : ∀ b, b < w.heap.size → ((∃ m y, live H m = some y ∧ b ∈ φ m) ∨ Im c J b ∨ (b < c.w0.heap.size ∧ b ∉ c.O0)) → w'.heap[b]? = w.heap[b]?) : SRx c J loc φ env H a w' := by
  have hI : Same (Im c J) w w' := fun b hb => hs b (h.imm_lt hb) (.inr (.inl hb))
  refine { h with os := ho.trans h.os, tape := ht.trans h.tape, output := hu.trans h.output, size := Nat.le_trans h.size hz, old := ?_, jin := ?_, obj := ?_, rng := ?_, env := ?_ }
  · intro b hb hn
    rw [hs b (Nat.lt_of_lt_of_le hb h.size) (.inr (.inr ⟨hb, hn⟩))]
    exact h.old b hb hn
  · intro b hb
    exact ⟨(h.jin b hb).1, Nat.lt_of_lt_of_le (h.jin b hb).2 hz⟩
  · intro n x hn
    exact ObjRel_mono (fun _ k => k) hI (fun b hb => hs b (h.rng n x hn b hb).2.1 (.inl ⟨n, x, hn, hb⟩)) (h.obj n x hn)
  · intro n x hn b hb
    obtain ⟨k1, k2, k3⟩ := h.rng n x hn b hb
    exact ⟨k1, Nat.lt_of_lt_of_le k2 hz, k3⟩
  · intro s v hk
    exact VRel_mono (fun _ k => k) hI _ _ (h.env s v hk)
theorem SRx.pushed (h : SRx c J loc φ env H a w) {w' : World} (ho : w'.os = w.os) (ht : w'.tape = w.tape) (hu : w'.output = w.output) (hz : w.heap.size ≤ w'.heap.size) (hs : ∀ b, b < w.heap.size → w'.heap[b]? = w.heap[b]?) : SRx c J loc φ env H a w' :=
  h.world ho ht hu hz (fun b hb _ => hs b hb)

/-- Blocks that nobody owns are from now on memory that nobody writes. -/
theorem SRx.freeze (h : SRx c J loc φ env H a w) (S : Nat → Prop) (hS : ∀ b, S b → c.w0.heap.size ≤ b ∧ b < w.heap.size ∧ ∀ m y, live H m = some y → b ∉ φ m) : SRx c (fun b => J b ∨ S b) loc φ env H a w := by
  have hi : ∀ b, Im c J b → Im c (fun b => J b ∨ S b) b := fun b hb => hb.imp id .inl
  refine { h with jin := ?_, obj := ?_, rng := ?_, env := ?_ }
  · rintro b (hb | hb)
    · exact h.jin b hb
    · exact ⟨(hS b hb).1, (hS b hb).2.1⟩
  · intro n x hn
    exact ObjRel_mono hi (fun _ _ => rfl) (fun _ _ => rfl) (h.obj n x hn)
  · intro n x hn b hb
    obtain ⟨k1, k2, k3⟩ := h.rng n x hn b hb
    refine ⟨k1, k2, ?_⟩
    rintro (k | k)
    · exact k3 k
    · exact (hS b k).2.2 n x hn hb
  · intro s v hk
    exact VRel_mono hi (fun _ _ => rfl) _ _ (h.env s v hk)

theorem upd_same {α : Type} (f : Nat → α) (n : Nat) (x : α) : upd f n x n = x := by simp [upd]
theorem upd_ne {α : Type} (f : Nat → α) {n m : Nat} (x : α) (h : m ≠ n) : upd f n x m = f m := by simp [upd, h]

/-- A new object, or one that takes its old place again. -/
theorem SRx.add (h : SRx c J loc φ env H a w) {n : Nat} {x : Rows} {l : Loc} {fp : List Nat} (hn : (n < 900000 ∧ look H n = none) ∨ l = loc n) (hdead : l ≠ .dead) (hlive : live H n = none)
    (hobj : ObjRel w (Im c J) (upd loc n l) x l fp) (hnd : fp.Nodup) (hfp : ∀ b, b ∈ fp → (b ∈ c.O0 ∨ c.w0.heap.size ≤ b) ∧ b < w.heap.size ∧ ¬ J b ∧ ∀ m y, live H m = some y → b ∉ φ m) :
    SRx c J (upd loc n l) (upd φ n fp) env ((n, some x) :: H) a w := by
  have hloc : ∀ m, loc m = .unk ∨ upd loc n l m = loc m ∨ upd loc n l m = .dead := by
    intro m
    by_cases e : m = n
    · subst e
      rw [upd_same]
      rcases hn with ⟨k1, k2⟩ | k
      · exact .inl (h.unk m k1 k2)
      · exact .inr (.inl k)
    · exact .inr (.inl (upd_ne _ _ e))
  have hv : ∀ m y, live ((n, some x) :: H) m = some y → (m = n ∧ y = x) ∨ (m ≠ n ∧ live H m = some y) := by
    intro m y hm
    rw [live_cons] at hm
    split at hm
    · rename_i e; exact .inl ⟨e, (Option.some.inj hm).symm⟩
    · rename_i e; exact .inr ⟨e, hm⟩
  refine { h with obj := ?_, rng := ?_, nodup := ?_, disj := ?_, env := ?_, nodead := ?_, unk := ?_, lent := ?_ }
  · intro m y hm
    rcases hv m y hm with ⟨rfl, rfl⟩ | ⟨e, hm⟩
    · rw [upd_same, upd_same]; exact hobj
    · rw [upd_ne _ _ e, upd_ne _ _ e]
      exact ObjRel_loc hloc (h.obj m y hm)
  · intro m y hm b hb
    rcases hv m y hm with ⟨rfl, rfl⟩ | ⟨e, hm⟩
    · rw [upd_same] at hb
      obtain ⟨k1, k2, k3, _⟩ := hfp b hb
      exact ⟨k1, k2, k3⟩
    · rw [upd_ne _ _ e] at hb
      exact h.rng m y hm b hb
  · intro m y hm
    rcases hv m y hm with ⟨rfl, rfl⟩ | ⟨e, hm⟩
    · rw [upd_same]; exact hnd
    · rw [upd_ne _ _ e]; exact h.nodup m y hm
  · intro m k y z hne hm hk b hb
    rcases hv m y hm with ⟨rfl, rfl⟩ | ⟨e, hm'⟩
    · rcases hv k z hk with ⟨rfl, rfl⟩ | ⟨e', hk⟩
      · exact absurd rfl hne
      · rw [upd_same] at hb
        rw [upd_ne _ _ e']
        exact (hfp b hb).2.2.2 k z hk
    · rw [upd_ne _ _ e] at hb
      rcases hv k z hk with ⟨rfl, rfl⟩ | ⟨e', hk'⟩
      · rw [upd_same]
        exact fun hc => (hfp b hc).2.2.2 m y hm' hb
      · rw [upd_ne _ _ e']
        exact h.disj m k y z hne hm' hk' b hb
  · intro s v hk
    exact VRel_loc hloc _ _ (h.env s v hk)
  · intro m
    by_cases e : m = n
    · subst e; rw [upd_same]; exact hdead
    · rw [upd_ne _ _ e]; exact h.nodead m
  · intro m hm hk
    rw [look_cons] at hk
    split at hk
    · cases hk
    · rename_i e
      rw [upd_ne _ _ e]
      exact h.unk m hm hk
  · intro m hm
    by_cases e : m = n
    · subst e
      rw [upd_same]
      rcases hn with ⟨k1, _⟩ | k
      · omega
      · rw [k]; exact h.lent m hm
    · rw [upd_ne _ _ e]; exact h.lent m hm
end

/-- One operation, and what may be taken behind it. -/
def OpStep (P : Program) (o : Oper) (a : Act) (w : World) (post : Act → World → Prop) : Prop :=
  ∀ (next : Act → World → Prop) (Q : Exit → Act → World → Prop), (∀ a' w', post a' w' → next a' w') → o.wp P a w next Q

theorem OpStep.of_run {P : Program} {o : Oper} {a : Act} {w w' : World} {v : Value} {post : Act → World → Prop} (h : (execOp a.eval o).run P w = .ok (.value v) w') (hp : post (a.put o.dst v) w') : OpStep P o a w post := by
  intro next Q hn
  unfold Oper.wp
  rw [h]
  exact hn _ _ hp
theorem OpStep.of_skip {P : Program} {o : Oper} {a : Act} {w w' : World} {post : Act → World → Prop} (h : (execOp a.eval o).run P w = .ok .skip w') (hp : post (a.put o.dst undef) w') : OpStep P o a w post := by
  intro next Q hn
  unfold Oper.wp
  rw [h]
  exact hn _ _ hp
theorem OpStep.of_call {P : Program} {o : Oper} {a : Act} {w : World} {f : FuncId} {args : Array Value} {post : Act → World → Prop} (h : (execOp a.eval o).run P w = .ok (.enter f args) w)
    (hc : Calls P f args w fun e w' => ∃ v, e = .returned v ∧ post (a.put o.dst v) w') : OpStep P o a w post := by
  intro next Q hn
  unfold Oper.wp
  rw [h]
  refine hc.mono ?_
  rintro e w' ⟨v, rfl, hp⟩
  exact hn _ _ hp

end Go.Lev
