/- Operations that make or write memory: what becomes of the state. -/
import Derived.Test.YtahjhlnhkoifhaaGreatZE
set_option linter.unusedVariables false
set_option linter.unusedSimpArgs false
namespace Go.Lev

/-- The part of a state that is the heap. -/
structure HOk (w : World) (imm : Nat → Prop) (loc : Nat → Loc) (φ : Nat → List Nat) (H : Heap) : Prop where
  obj : HRel w imm loc φ H
  nodup : ∀ n x, live H n = some x → (φ n).Nodup
  disj : ∀ n m x y, n ≠ m → live H n = some x → live H m = some y → ∀ b, b ∈ φ n → b ∉ φ m


theorem look_append {α : Type} : ∀ (xs ys : List (Nat × α)) (n : Nat), look (xs ++ ys) n = (look xs n).or (look ys n)
  | [], ys, n => by simp [look]
  | (k, v) :: xs, ys, n => by
    simp only [List.cons_append, look]
    split
    · simp
    · exact look_append xs ys n
theorem look_killed : ∀ (ns : List Nat) (n : Nat), look (killed ns) n = if n ∈ ns then some none else none
  | [], n => by simp [killed, look]
  | k :: ns, n => by
    have ih := look_killed ns n
    simp only [killed, List.map_cons, look]
    split
    · rename_i e; simp [e]
    · rename_i e
      simp only [killed] at ih
      rw [ih]
      simp [e]
theorem look_kills (ns : List Nat) (H : Heap) (n : Nat) : look (killed ns ++ H) n = if n ∈ ns then some none else look H n := by
  rw [look_append, look_killed]
  split <;> simp
theorem live_kills (ns : List Nat) (H : Heap) (n : Nat) : live (killed ns ++ H) n = if n ∈ ns then none else live H n := by
  unfold live
  rw [look_kills]
  split <;> simp
theorem live_of_kills {ns : List Nat} {H : Heap} {n : Nat} {x : Rows} (h : live (killed ns ++ H) n = some x) : n ∉ ns ∧ live H n = some x := by
  rw [live_kills] at h
  split at h
  · cases h
  · rename_i e; exact ⟨e, h⟩
theorem look_of_live {H : Heap} {n : Nat} {x : Rows} (h : live H n = some x) : look H n = some (some x) := by
  unfold live at h
  cases hl : look H n with
  | none => rw [hl] at h; cases h
  | some y => rw [hl] at h; simpa using h
theorem live_of_look {H : Heap} {n : Nat} (h : look H n = none) : live H n = none := by
  unfold live; rw [h]; rfl

section
variable {P : Program} {c : Ctx} {J : Nat → Prop} {loc : Nat → Loc} {φ : Nat → List Nat} {env : Env} {H : Heap} {a : Act} {w : World} {imm : Nat → Prop}

theorem HOk.sub (h : HOk w imm loc φ H) {H' : Heap} (hs : ∀ n x, live H' n = some x → live H n = some x) : HOk w imm loc φ H' :=
  ⟨fun n x k => h.obj n x (hs n x k), fun n x k => h.nodup n x (hs n x k), fun n m x y e k1 k2 => h.disj n m x y e (hs n x k1) (hs m y k2)⟩
theorem SRx.hok (h : SRx c J loc φ env H a w) : HOk w (Im c J) loc φ H := ⟨h.obj, h.nodup, h.disj⟩
theorem SRx.kills : ∀ (ns : List Nat) {H : Heap}, SRx c J loc φ env H a w → SRx c J loc φ env (killed ns ++ H) a w
  | [], _, h => h
  | n :: ns, _, h => (SRx.kills ns h).kill n

/-! ### Cells of values -/
theorem VRel_Own {lv : LV} {v : Value} (h : VRel w imm loc lv v) (h1 : v.oneCell' = true) : OwnV w imm loc lv v [] := by
  cases lv <;> simp only [VRel] at h <;> simp only [OwnV] <;> first
    | exact ⟨h1, by trivial⟩
    | exact ⟨h, by trivial⟩
    | exact h.elim
theorem VC_Own : ∀ {cs : List LV} {vs : List Value}, VC w imm loc cs vs → (∀ u ∈ vs, u.oneCell' = true) → OwnC w imm loc cs vs []
  | [], _, _, _ => by simp [OwnC]
  | c :: cs, vs, h, h1 => by
    simp only [VC] at h
    obtain ⟨v, t, rfl, k1, k2⟩ := h
    simp only [OwnC]
    exact ⟨v, t, [], [], rfl, rfl, VRel_Own k1 (h1 v (by simp)), VC_Own k2 (fun u hu => h1 u (by simp [hu]))⟩

theorem OwnR_vws {esz : Nat} {x : Rows} {vs : List Value} {fp : List Nat} (off len : Nat) (ho : off ≤ x.length) (hl : ∀ r ∈ x, r.length = esz) (h : OwnR w imm loc x vs fp) : ∃ f, f.Sublist fp ∧ OwnR w imm loc (vw x off len) (vs.drop (off * esz)) f := by
  obtain ⟨f1, f2, rfl, _, h2⟩ := OwnR_split off ho hl h
  by_cases hlen : len ≤ (x.drop off).length
  · obtain ⟨g1, g2, rfl, k, _⟩ := OwnR_split len hlen (fun r hr => hl r (List.mem_of_mem_drop hr)) h2
    exact ⟨g1, (List.sublist_append_left g1 g2).trans (List.sublist_append_right f1 _), k⟩
  · refine ⟨f2, List.sublist_append_right f1 _, ?_⟩
    unfold vw
    rw [List.take_of_length_le (by omega)]
    exact h2
theorem rowsPlain_vw {x : Rows} (h : rowsPlain x = true) (off len : Nat) : rowsPlain (vw x off len) = true := by
  unfold rowsPlain at *
  rw [List.all_eq_true] at *
  intro r hr
  exact h r (List.mem_of_mem_drop (List.mem_of_mem_take hr))
theorem vw_length {α : Type} (x : List α) (off len : Nat) (h : off + len ≤ x.length) : ((x.drop off).take len).length = len := by
  rw [List.length_take, List.length_drop]; omega

/-- A slice of an object that nothing else needs, as an owned slice. -/
theorem sl_arr {es : Nat} {loc' : Nat → Loc} {off len : Nat} {x : Rows} {v : Value} {l : Loc} {fp : List Nat} (hp : rowsPlain x = true) (hnd : fp.Nodup) (hobj : ObjRel w imm loc x l fp) (hv : SlRel es l off len v) :
    ∃ f, OwnV w imm loc' (.arr es (vw x off len)) v f ∧ f.Nodup ∧ (∀ b, b ∈ f → b ∈ fp) := by
  cases l with
  | unk => exact hv.elim
  | dead => exact hobj.elim
  | nil =>
    obtain ⟨rfl, rfl, ad, rfl⟩ := hv
    refine ⟨[], ?_, List.nodup_nil, fun _ h => by cases h⟩
    simp only [OwnV]
    exact .inl ⟨by simp [vw], by trivial, ad, rfl⟩
  | «at» b base esz n sz =>
    obtain ⟨rfl, hle, ad, cap, rfl, hv⟩ := hv
    obtain ⟨hn, hpos, hall, cs, ty, fps, hb, hsz, hfit, rfl, hR⟩ := hobj
    have hlen : (vw x off len).length = len := vw_length x off len (by omega)
    rcases hv with ⟨rfl, rfl⟩ | ⟨rfl, hsz', hlc⟩
    · refine ⟨[], ?_, List.nodup_nil, fun _ h => by cases h⟩
      simp only [OwnV]
      exact .inl ⟨by simp [vw], by trivial, ad, rfl⟩
    · obtain ⟨f, hf, hR'⟩ := OwnR_vws off len (by omega) hall hR
      refine ⟨b :: f, ?_, (List.Sublist.cons_cons b hf).nodup hnd, fun k hk => ?_⟩
      · simp only [OwnV]
        refine .inr ⟨b, base + off * esz, cap, cs, ty, f, by rw [hlen], hb, hpos, ?_, ?_, by rw [hlen]; exact hlc, rfl, ?_⟩
        · intro r hr
          exact hall r (List.mem_of_mem_drop (List.mem_of_mem_take hr))
        · rw [hsz]; rw [Nat.add_mul] at hsz'; omega
        · rw [List.drop_drop] at hR'
          exact OwnR_plain _ (rowsPlain_vw hp off len) _ _ hR'
      · exact (List.Sublist.cons_cons b hf).subset hk

theorem packC_rel : ∀ {cs : List LV} {vs : List Value} {H : Heap} {p : List LV × Heap}, HOk w imm loc φ H → VC w imm loc cs vs → (∀ u ∈ vs, u.oneCell' = true) → packC H cs = some p →
    ∃ ns fp, p.2 = killed ns ∧ OwnC w imm loc p.1 vs fp ∧ fp.Nodup ∧ (∀ b, b ∈ fp → ∃ o x, o ∈ ns ∧ live H o = some x ∧ b ∈ φ o) ∧ p.1.length = cs.length ∧ (∀ o, o ∈ ns → look H o ≠ none)
  | [], vs, H, p, hh, h, h1, hp => by
    obtain rfl := Option.some.inj hp
    exact ⟨[], [], rfl, by simp [OwnC], List.nodup_nil, by simp, rfl, by simp⟩
  | c :: cs, vs, H, p, hh, h, h1, hp => by
    simp only [VC] at h
    obtain ⟨v, t, rfl, k1, k2⟩ := h
    have one : v.oneCell' = true := h1 v (by simp)
    have h1' : ∀ u ∈ t, u.oneCell' = true := fun u hu => h1 u (by simp [hu])
    have easy : ∀ c', VRel w imm loc c' v → (packC H cs).bind (fun p => some (c' :: p.1, p.2)) = some p →
        ∃ ns fp, p.2 = killed ns ∧ OwnC w imm loc p.1 (v :: t) fp ∧ fp.Nodup ∧ (∀ b, b ∈ fp → ∃ o x, o ∈ ns ∧ live H o = some x ∧ b ∈ φ o) ∧ p.1.length = (c :: cs).length ∧ (∀ o, o ∈ ns → look H o ≠ none) := by
      intro c' kc hq
      cases hr : packC H cs with
      | none => rw [hr] at hq; cases hq
      | some q =>
        rw [hr] at hq
        obtain rfl := Option.some.inj hq
        obtain ⟨ns, fp, e1, e2, e3, e4, e5, e6⟩ := packC_rel hh k2 h1' hr
        refine ⟨ns, fp, e1, ?_, e3, e4, by simp [e5], e6⟩
        simp only [OwnC]
        exact ⟨v, t, [], fp, rfl, rfl, VRel_Own kc one, e2⟩
    cases c
    case sl es o off len =>
      simp only [packC] at hp
      cases hl : live H o with
      | none => rw [hl] at hp; cases hp
      | some x =>
        rw [hl] at hp
        simp only [Option.bind_some] at hp
        split at hp
        · rename_i hpl
          cases hr : packC ((o, none) :: H) cs with
          | none => rw [hr] at hp; cases hp
          | some q =>
            rw [hr] at hp
            obtain rfl := Option.some.inj hp
            have hsub : ∀ n x, live ((o, none) :: H) n = some x → n ≠ o ∧ live H n = some x := by
              intro n x hn
              rw [live_cons] at hn
              split at hn
              · cases hn
              · rename_i e; exact ⟨e, hn⟩
            obtain ⟨ns, fp, e1, e2, e3, e4, e5, e6⟩ := packC_rel (hh.sub (fun n x k => (hsub n x k).2)) k2 h1' hr
            simp only [VRel] at k1
            obtain ⟨f, g1, g2, g3⟩ := sl_arr (loc' := loc) hpl (hh.nodup o x hl) (hh.obj o x hl) k1
            refine ⟨o :: ns, f ++ fp, by simp [e1, killed], ?_, ?_, ?_, by simp [e5], ?_⟩
            · simp only [OwnC]
              exact ⟨v, t, f, fp, rfl, rfl, g1, e2⟩
            · rw [List.nodup_append]
              refine ⟨g2, e3, ?_⟩
              rintro b hb b' hb' rfl
              obtain ⟨o', x', _, h2, h3⟩ := e4 b hb'
              obtain ⟨h4, h5⟩ := hsub o' x' h2
              exact hh.disj o o' x x' (fun e => h4 e.symm) hl h5 b (g3 b hb) h3
            · intro b hb
              rw [List.mem_append] at hb
              rcases hb with hb | hb
              · exact ⟨o, x, by simp, hl, g3 b hb⟩
              · obtain ⟨o', x', h1, h2, h3⟩ := e4 b hb
                exact ⟨o', x', by simp [h1], (hsub o' x' h2).2, h3⟩
            · intro o' ho'
              rcases List.mem_cons.1 ho' with rfl | ho'
              · rw [look_of_live hl]; simp
              · have := e6 o' ho'
                rw [look_cons] at this
                split at this
                · rename_i e; subst e; rw [look_of_live hl]; simp
                · exact this
        · cases hp
    case list es xs => exact easy _ k1 (by simpa only [packC] using hp)
    case nil es =>
      simp only [packC] at hp
      cases hr : packC H cs with
      | none => rw [hr] at hp; cases hp
      | some q =>
        rw [hr] at hp
        obtain rfl := Option.some.inj hp
        obtain ⟨ns, fp, e1, e2, e3, e4, e5, e6⟩ := packC_rel hh k2 h1' hr
        refine ⟨ns, fp, e1, ?_, e3, e4, by simp [e5], e6⟩
        simp only [VRel] at k1
        simp only [OwnC, OwnV]
        exact ⟨v, t, [], fp, rfl, rfl, .inl ⟨by trivial, by trivial, none, k1⟩, e2⟩
    all_goals
      simp only [packC, LV.plain, if_true, if_false, Bool.false_eq_true] at hp
      first
        | (cases hp; done)
        | exact easy _ k1 hp

/-! ### Writing -/
theorem setRow_size (w : World) (b : Nat) (cs : Array Value) : (w.setRow b cs).heap.size = w.heap.size := by simp [World.setRow]
theorem setRow_other (w : World) (b : Nat) (cs : Array Value) {k : Nat} (h : k ≠ b) : (w.setRow b cs).heap[k]? = w.heap[k]? := by
  have h' : ¬ b = k := fun e => h e.symm
  simp only [World.setRow, Array.getElem?_modify, h', if_false]

theorem splice_take {α : Type} (us : List α) (k : Nat) (vs : List α) {m : Nat} (h : m ≤ k) (hk : k ≤ us.length) : (splice us k vs).take m = us.take m := by
  unfold splice
  rw [List.append_assoc, List.take_append_of_le_length (by rw [List.length_take]; omega), List.take_take, Nat.min_eq_left h]
theorem splice_drop {α : Type} (us : List α) (k : Nat) (vs : List α) {m : Nat} (h : k + vs.length ≤ m) (hk : k + vs.length ≤ us.length) : (splice us k vs).drop m = us.drop m := by
  unfold splice
  have e : (us.take k ++ vs).length = k + vs.length := by rw [List.length_append, List.length_take]; omega
  rw [List.drop_append, List.drop_of_length_le (by omega), e, List.nil_append, List.drop_drop]
  congr 1
  omega
theorem splice_mid {α : Type} (us : List α) (k : Nat) (vs : List α) (hk : k ≤ us.length) : ((splice us k vs).drop k).take vs.length = vs := by
  unfold splice
  have e : (us.take k).length = k := by rw [List.length_take]; omega
  rw [List.append_assoc, List.drop_append_of_le_length (by omega), List.drop_of_length_le (by omega), List.nil_append, List.take_append_of_le_length (Nat.le_refl _), List.take_length]
theorem splice_length {α : Type} (us : List α) (k : Nat) (vs : List α) (hk : k + vs.length ≤ us.length) : (splice us k vs).length = us.length := by
  unfold splice
  simp
  omega

theorem OwnR_open {esz : Nat} {x : Rows} {us : List Value} {fp : List Nat} {e j n : Nat} {r : Row} (hpos : 0 < esz) (hall : ∀ r ∈ x, r.length = esz) (h : OwnR w imm loc x us fp) (hr : x[e]? = some r) (hj : j + n ≤ r.length) :
    e * esz + j + n ≤ us.length ∧ ∃ A M B, fp = A ++ M ++ B ∧ OwnC w imm loc ((r.drop j).take n) (us.drop (e * esz + j)) M ∧
      ∀ (loc' : Nat → Loc) (cs : List LV) (vs : List Value) (f : List Nat), (∀ m, loc m = .unk ∨ loc' m = loc m ∨ loc' m = .dead) → cs.length = n → vs.length = n → OwnC w imm loc' cs vs f → OwnR w imm loc' (x.set e (splice r j cs)) (splice us (e * esz + j) vs) (A ++ f ++ B) := by
  obtain ⟨he, hre⟩ := List.getElem?_eq_some_iff.1 hr
  have hrl : r.length = esz := hall r (hre ▸ List.getElem_mem he)
  obtain ⟨f1, f2, rfl, hR1, hR2⟩ := OwnR_split e (by omega) hall h
  have hd : x.drop e = r :: x.drop (e + 1) := by rw [List.drop_eq_getElem_cons he, hre]
  rw [hd] at hR2
  simp only [OwnR] at hR2
  obtain ⟨g1, g2, rfl, hC, hR3⟩ := hR2
  have hfit : e * esz + r.length ≤ us.length := by
    have := OwnC_len hC
    rw [List.length_drop] at this
    omega
  obtain ⟨a1, a2, rfl, hA, hA2⟩ := OwnC_split j (by omega) hC
  obtain ⟨m1, m2, rfl, hM, hB⟩ := OwnC_split n (by rw [List.length_drop]; omega) hA2
  rw [List.drop_drop] at hM hB
  rw [List.drop_drop, List.drop_drop] at hB
  rw [List.drop_drop] at hR3
  refine ⟨by omega, f1 ++ a1, m1, m2 ++ g2, by simp, hM, ?_⟩
  intro loc' cs vs f hcomp hcl hl hc
  subst hcl
  replace hR1 := OwnR_loc hcomp _ _ _ hR1
  replace hA := OwnC_loc hcomp _ _ _ hA
  replace hB := OwnC_loc hcomp _ _ _ hB
  replace hR3 := OwnR_loc hcomp _ _ _ hR3
  have hk : e * esz + j + vs.length ≤ us.length := by omega
  have es : x.set e (splice r j cs) = x.take e ++ (splice r j cs :: x.drop (e + 1)) := by
    rw [List.set_eq_take_append_cons_drop, if_pos he]
  have ef : (f1 ++ a1) ++ f ++ (m2 ++ g2) = f1 ++ ((a1 ++ (f ++ m2)) ++ g2) := by simp
  rw [es, ef]
  have et : totLen (x.take e) = e * esz := by
    rw [totLen_eq (fun r hr => hall r (List.mem_of_mem_take hr)), List.length_take]
    congr 1
    omega
  refine OwnR_join (OwnR_vals ?_ hR1) ?_
  · rw [et]
    exact splice_take _ _ _ (by omega) (by omega)
  · rw [et]
    simp only [OwnR]
    refine ⟨a1 ++ (f ++ m2), g2, rfl, ?_, ?_⟩
    · have er : splice r j cs = r.take j ++ (cs ++ r.drop (j + cs.length)) := by simp [splice]
      rw [er]
      have hlj : (r.take j).length = j := by rw [List.length_take]; omega
      refine OwnC_join (OwnC_vals ?_ hA) (OwnC_join (OwnC_vals ?_ hc) (OwnC_vals ?_ hB))
      · rw [hlj, List.take_drop, List.take_drop, splice_take _ _ _ (by omega) (by omega)]
      · rw [hlj, List.drop_drop, ← hl, splice_mid _ _ _ (by omega), List.take_length]
      · rw [hlj, List.drop_drop, List.drop_drop]
        congr 1
        rw [splice_drop _ _ _ (by omega) hk]
        try (congr 1; omega)
    · have : (splice r j cs).length = r.length := splice_length _ _ _ (by omega)
      rw [this, List.drop_drop, splice_drop _ _ _ (by omega) hk]
      exact hR3

theorem splice_dropLe {α : Type} (us : List α) (b k : Nat) (vs : List α) (hk : b + k ≤ us.length) : (splice us (b + k) vs).drop b = splice (us.drop b) k vs := by
  unfold splice
  have e1 : (us.take (b + k)).length = b + k := by rw [List.length_take]; omega
  rw [List.append_assoc, List.drop_append_of_le_length (by omega), List.drop_take, Nat.add_sub_cancel_left, List.drop_drop, List.append_assoc, Nat.add_assoc]
theorem upd_self {α : Type} (f : Nat → α) (n : Nat) : upd f n (f n) = f := by
  funext m
  unfold upd
  split
  · rename_i e; rw [e]
  · rfl
theorem SRx.unkill {n : Nat} {y : Option Rows} (h : SRx c J loc φ env ((n, y) :: (n, none) :: H) a w) : SRx c J loc φ env ((n, y) :: H) a w := by
  refine h.sameLook (fun m => ?_)
  simp only [look_cons]
  split <;> rfl

theorem SRx.write (h : SRx c J loc φ env H a w) {o e j : Nat} {x : Rows} {r : Row} (hl : live H o = some x) (hr : x[e]? = some r) {cs : List LV} {us : List Value} {f : List Nat} (hj : j + cs.length ≤ r.length) {v : Value} (hp : PtrRel (loc o) e j v)
    (hc : OwnC w (Im c J) loc cs us f) (hlen : us.length = cs.length) (hnd : f.Nodup) (hf : ∀ b, b ∈ f → (b ∈ c.O0 ∨ c.w0.heap.size ≤ b) ∧ b < w.heap.size ∧ ¬ J b ∧ ∀ m y, live H m = some y → b ∉ φ m) :
    ∃ b off cur ty φ', v = .pointer (some ⟨b, off, none⟩) ∧ w.heap[b]? = some (.cells cur ty (0, 0)) ∧ off + us.length ≤ cur.size ∧
      SRx c J loc φ' env ((o, some (x.set e (splice r j cs))) :: H) a (w.setRow b (splice cur.toList off us).toArray) ∧ (∀ m, m ≠ o → φ' m = φ m) := by
  have hobj := h.obj o x hl
  have hnd0 := h.nodup o x hl
  have hrng := h.rng o x hl
  generalize hloc : loc o = l at hp hobj
  cases l with
  | unk => exact hp.elim
  | dead => exact hobj.elim
  | nil => exact hp.elim
  | «at» b base esz n sz =>
    obtain ⟨hn, hpos, hall, cur, ty, fps, hb, hsz, hfit, hfp, hR⟩ := hobj
    obtain ⟨he, hre⟩ := List.getElem?_eq_some_iff.1 hr
    obtain ⟨hin, A, M, B, e1, e3, e2⟩ := OwnR_open hpos hall hR hr hj
    replace e2 := e2 loc cs us f (fun _ => .inr (.inl rfl)) rfl hlen hc
    rw [List.length_drop] at hin
    have hbo : b ∈ φ o := by rw [hfp]; simp
    have hmem : ∀ k, k ∈ A ++ f ++ B → k ≠ b ∧ (k ∈ c.O0 ∨ c.w0.heap.size ≤ k) ∧ k < w.heap.size ∧ ¬ J k ∧ ∀ m y, m ≠ o → live H m = some y → k ∉ φ m := by
      intro k hk
      rw [List.append_assoc, List.mem_append, List.mem_append] at hk
      have key : k ∈ fps → _ := fun hk' => by
        have hko : k ∈ φ o := by rw [hfp]; exact List.mem_cons_of_mem _ hk'
        obtain ⟨q1, q2, q3⟩ := hrng k hko
        refine (⟨?_, q1, q2, q3, fun m y hm hy => h.disj o m x y (fun e => hm e.symm) hl hy k hko⟩ : k ≠ b ∧ (k ∈ c.O0 ∨ c.w0.heap.size ≤ k) ∧ k < w.heap.size ∧ ¬ J k ∧ ∀ m y, m ≠ o → live H m = some y → k ∉ φ m)
        rintro rfl
        rw [hfp, List.nodup_cons] at hnd0
        exact hnd0.1 hk'
      rcases hk with hk | hk | hk
      · exact key (by rw [e1]; simp [hk])
      · obtain ⟨q1, q2, q3, q4⟩ := hf k hk
        exact ⟨fun e => q4 o x hl (e ▸ hbo), q1, q2, q3, fun m y _ hy => q4 m y hy⟩
      · exact key (by rw [e1]; simp [hk])
    have hbI : ¬ Im c J b := h.not_imm hl hbo
    have hw' : ∀ k, k ≠ b → (w.setRow b (splice cur.toList (base + (e * esz + j)) us).toArray).heap[k]? = w.heap[k]? := fun k hk => setRow_other w b _ hk
    have hkill : ∀ m y, live ((o, none) :: H) m = some y → m ≠ o ∧ live H m = some y := by
      intro m y hm
      rw [live_cons] at hm
      split at hm
      · cases hm
      · rename_i e; exact ⟨e, hm⟩
    have h1 := (h.kill o).world (w' := w.setRow b (splice cur.toList (base + (e * esz + j)) us).toArray) rfl rfl rfl (by rw [setRow_size]; exact Nat.le_refl _) (by
      rintro k hk (⟨m, y, hm, hk⟩ | hk | ⟨hk1, hk2⟩)
      · obtain ⟨q1, q2⟩ := hkill m y hm
        exact hw' k (fun e => h.disj o m x y (fun e => q1 e.symm) hl q2 b hbo (e ▸ hk))
      · exact hw' k (fun e => hbI (e ▸ hk))
      · refine hw' k ?_
        rintro rfl
        rcases (hrng k hbo).1 with q | q
        · exact hk2 q
        · omega)
    have hlb : base + (e * esz + j) + us.length ≤ cur.toList.length := by
      have hlt : cur.toList.length = cur.size := Array.length_toList
      rw [hlt]
      rw [hlt] at hin
      by_cases h0 : us.length = 0
      · rw [h0, Nat.add_zero]
        have : e * esz + j ≤ n * esz := by
          have : (e + 1) * esz ≤ n * esz := Nat.mul_le_mul_right _ (by omega)
          rw [Nat.add_mul] at this
          have hrl : r.length = esz := hall r (hre ▸ List.getElem_mem he)
          omega
        omega
      · omega
    have h2 := h1.add (n := o) (x := x.set e (splice r j cs)) (l := loc o) (fp := b :: (A ++ f ++ B)) (.inr rfl) (h.nodead o) (by rw [live_cons, if_pos rfl]) ?_ ?_ ?_
    · rw [upd_self] at h2
      exact ⟨b, base + (e * esz + j), cur, ty, _, by rw [hp, Nat.add_assoc], hb, by simpa using hlb, h2.unkill, fun m hm => upd_ne _ _ hm⟩
    · rw [upd_self, hloc]
      refine ⟨by simpa using hn, hpos, ?_, _, ty, _, setRow_heap w b cur _ ty (0, 0) hb, ?_, hfit, rfl, ?_⟩
      · intro q hq
        rcases List.mem_or_eq_of_mem_set hq with hq | rfl
        · exact hall q hq
        · rw [splice_length _ _ _ hj]
          exact hall r (hre ▸ List.getElem_mem he)
      · rw [← hsz]
        have := splice_length _ _ _ hlb
        simpa using this
      · rw [List.toList_toArray, splice_dropLe _ _ _ _ (by omega)]
        exact OwnR_mono _ _ _ (fun _ k => k) (fun k hk => hw' k (fun e => hbI (e ▸ hk))) _ _ _ (fun k hk => hw' k (hmem k hk).1) e2
    · rw [List.nodup_cons]
      refine ⟨fun hk => (hmem b hk).1 rfl, ?_⟩
      rw [hfp, List.nodup_cons, e1] at hnd0
      have hfo : ∀ k, k ∈ f → k ∉ A ++ M ++ B := fun k hk hk' => (hf k hk).2.2.2 o x hl (by rw [hfp, e1]; exact List.mem_cons_of_mem _ hk')
      have n1 := hnd0.2
      simp only [List.nodup_append, List.mem_append] at n1 hfo ⊢
      refine ⟨⟨n1.1.1, hnd, ?_⟩, n1.2.1, ?_⟩
      · rintro k hk k' hk' rfl
        exact hfo k hk' (.inl (.inl hk))
      · rintro k (hk | hk) k' hk' rfl
        · exact n1.2.2 k (.inl hk) k hk' rfl
        · exact hfo k hk (.inr hk')
    · intro k hk
      rw [setRow_size]
      rcases List.mem_cons.1 hk with rfl | hk
      · obtain ⟨q1, q2, q3⟩ := hrng k hbo
        refine ⟨q1, q2, q3, fun m y hm => ?_⟩
        obtain ⟨g1, g2⟩ := hkill m y hm
        exact h.disj o m x y (fun e => g1 e.symm) hl g2 k hbo
      · obtain ⟨_, q1, q2, q3, q4⟩ := hmem k hk
        refine ⟨q1, q2, q3, fun m y hm => ?_⟩
        obtain ⟨g1, g2⟩ := hkill m y hm
        exact q4 m y g1 g2

theorem alloc_old (w : World) (o : Obj) {k : Nat} (hk : k < w.heap.size) : (w.alloc o).heap[k]? = w.heap[k]? := by
  unfold World.alloc
  simp only [Array.getElem?_push, Nat.ne_of_lt hk, if_false]
theorem alloc_new (w : World) (o : Obj) : (w.alloc o).heap[w.heap.size]? = some o := by
  unfold World.alloc
  simp only [Array.getElem?_push, if_true]
/-- A new block, as a new object. -/
theorem SRx.new (h : SRx c J loc φ env H a w) {n : Nat} (hn : freshN H n = true) {cs : Array Value} {ty : TypeId} {x : Rows} {esz : Nat} (h0 : 0 < esz) (hall : ∀ r ∈ x, r.length = esz) (hsz : x.length * esz ≤ cs.size) {fps : List Nat}
    (hR : OwnR w (Im c J) loc x cs.toList fps) (hnd : fps.Nodup) (hf : ∀ b, b ∈ fps → (b ∈ c.O0 ∨ c.w0.heap.size ≤ b) ∧ b < w.heap.size ∧ ¬ J b ∧ ∀ m y, live H m = some y → b ∉ φ m) :
    SRx c J (upd loc n (.at w.heap.size 0 esz x.length cs.size)) (upd φ n (w.heap.size :: fps)) env ((n, some x) :: H) a (w.alloc (.cells cs ty)) := by
  simp only [freshN, Bool.and_eq_true, Option.isNone_iff_eq_none, decide_eq_true_eq] at hn
  have hold : ∀ k, k < w.heap.size → (w.alloc (.cells cs ty)).heap[k]? = w.heap[k]? := fun k hk => alloc_old w _ hk
  have h1 := h.pushed (w' := w.alloc (.cells cs ty)) rfl rfl rfl (by simp) hold
  refine h1.add (.inl ⟨hn.2, hn.1⟩) (fun e => by cases e) (live_of_look hn.1) ?_ ?_ ?_
  · refine ⟨rfl, h0, hall, cs, ty, fps, alloc_new w _, rfl, by omega, rfl, ?_⟩
    rw [List.drop_zero]
    refine OwnR_loc (loc := loc) (fun m => ?_) _ _ _ (OwnR_mono _ _ _ (fun _ k => k) (fun k hk => hold k (h.imm_lt hk)) _ _ _ (fun k hk => hold k (hf k hk).2.1) hR)
    by_cases e : m = n
    · subst e; exact .inl (h.unk m hn.2 hn.1)
    · exact .inr (.inl (upd_ne _ _ e))
  · rw [List.nodup_cons]
    exact ⟨fun hk => Nat.lt_irrefl _ (hf _ hk).2.1, hnd⟩
  · intro b hb
    rw [World.size_alloc]
    rcases List.mem_cons.1 hb with rfl | hb
    · refine ⟨.inr h.size, by omega, fun hj => Nat.lt_irrefl _ (h.jin _ hj).2, fun m y hm hk => Nat.lt_irrefl _ (h.rng m y hm _ hk).2.1⟩
    · obtain ⟨q1, q2, q3, q4⟩ := hf b hb
      exact ⟨q1, by omega, q3, q4⟩

/-! ### Slices that are owned by cells become objects -/
def adopt (g : LV → LV) : Nat → List LV → List LV × Heap
  | _, [] => ([], [])
  | n, .arr es xs :: r => (.sl es n 0 xs.length :: (adopt g (n + 1) r).1, (n, some xs) :: (adopt g (n + 1) r).2)
  | n, c :: r => (g c :: (adopt g (n + 1) r).1, (adopt g (n + 1) r).2)
theorem unpackC_adopt : ∀ (n : Nat) (cs : List LV), unpackC n cs = adopt ldo n cs
  | _, [] => rfl
  | n, c :: r => by
    have ih := unpackC_adopt (n + 1) r
    cases c <;> simp [unpackC, adopt, ih]
theorem impC_adopt (ok : Bool) : ∀ (n : Nat) (cs : List LV), impC ok n cs = adopt (impF0 ok) n cs
  | _, [] => rfl
  | n, c :: r => by
    have ih := impC_adopt ok (n + 1) r
    cases c <;> simp [impC, adopt, ih]
theorem adopt_names (g : LV → LV) : ∀ (cs : List LV) (n m : Nat), look (adopt g n cs).2 m ≠ none → n ≤ m ∧ m < n + cs.length
  | [], n, m, h => by simp [adopt, look] at h
  | c :: r, n, m, h => by
    have ih := adopt_names g r (n + 1) m
    cases c
    case arr es xs =>
      simp only [adopt, look_cons] at h
      split at h
      · rename_i e; subst e; simp
      · have := ih h; simp; omega
    all_goals
      have := ih (by simpa only [adopt] using h)
      simp; omega
theorem live_append (xs ys : Heap) (n : Nat) : live (xs ++ ys) n = match look xs n with
    | some v => v
    | none => live ys n := by
  unfold live
  rw [look_append]
  cases look xs n <;> simp

theorem SRx.adopt {g : LV → LV} {imm1 : Nat → Prop} {loc1 : Nat → Loc} (h : SRx c J loc φ env H a w) (hg : ∀ c0 v f, (∀ es xs, c0 ≠ .arr es xs) → OwnV w imm1 loc1 c0 v f → ∀ loc', (∀ m, loc m = .unk ∨ loc' m = loc m) → VRel w (Im c J) loc' (g c0) v) :
    ∀ {cs : List LV} {us : List Value} {fp : List Nat} {d : Nat}, OwnC w imm1 loc1 cs us fp → fp.Nodup → (∀ b, b ∈ fp → (b ∈ c.O0 ∨ c.w0.heap.size ≤ b) ∧ b < w.heap.size ∧ ¬ J b ∧ ∀ m y, live H m = some y → b ∉ φ m) → freshAll H (Lev.adopt g d cs).2 = true → ((∀ b, imm1 b → Im c J b) ∨ pureH (Lev.adopt g d cs).2 = true) →
    ∃ loc' φ', SRx c J loc' φ' env ((Lev.adopt g d cs).2 ++ H) a w ∧ VC w (Im c J) loc' (Lev.adopt g d cs).1 (us.take cs.length) ∧ (∀ u ∈ us.take cs.length, u.oneCell' = true) ∧ (∀ m, look H m ≠ none → loc' m = loc m ∧ φ' m = φ m) ∧ (∀ m, loc m = .unk ∨ loc' m = loc m) ∧
      (∀ m y, live (Lev.adopt g d cs).2 m = some y → ∀ b, b ∈ φ' m → b ∈ fp)
  | [], us, fp, d, hc, hnd, hf, hfr, hpu => ⟨loc, φ, h, by simp [Lev.adopt, VC], by simp, fun m _ => ⟨rfl, rfl⟩, fun m => .inr rfl, by simp [Lev.adopt, live, look]⟩
  | c0 :: cs, us, fp, d, hc, hnd, hf, hfr, hpu => by
    simp only [OwnC] at hc
    obtain ⟨v, t, f1, f2, rfl, rfl, hv, hc⟩ := hc
    have one := OwnV_one hv
    rw [List.nodup_append] at hnd
    have hf2 : ∀ b, b ∈ f2 → (b ∈ c.O0 ∨ c.w0.heap.size ≤ b) ∧ b < w.heap.size ∧ ¬ J b ∧ ∀ m y, live H m = some y → b ∉ φ m := fun b hb => hf b (List.mem_append_right _ hb)
    have nonarr : (∀ es xs, c0 ≠ .arr es xs) → Lev.adopt g d (c0 :: cs) = (g c0 :: (Lev.adopt g (d + 1) cs).1, (Lev.adopt g (d + 1) cs).2) := by
      intro hne
      cases c0 <;> first | rfl | exact absurd rfl (hne _ _)
    by_cases harr : ∃ es xs, c0 = .arr es xs
    · obtain ⟨es, xs, rfl⟩ := harr
      have hfr' : freshN H d = true ∧ rowsPlain xs = true ∧ freshAll H (Lev.adopt g (d + 1) cs).2 = true := by
        simp only [Lev.adopt, freshAll, List.all_cons, Bool.and_eq_true, Option.getD_some] at hfr
        exact ⟨hfr.1.1, hfr.1.2, hfr.2⟩
      obtain ⟨hd, hpl, hfr'⟩ := hfr'
      have hpu' : ((∀ b, imm1 b → Im c J b) ∨ pureR xs = true) ∧ ((∀ b, imm1 b → Im c J b) ∨ pureH (Lev.adopt g (d + 1) cs).2 = true) := by
        rcases hpu with k | k
        · exact ⟨.inl k, .inl k⟩
        · simp only [Lev.adopt, pureH, List.all_cons, Bool.and_eq_true] at k
          exact ⟨.inr k.1, .inr k.2⟩
      obtain ⟨loc', φ', g1, g2, g3, g4, g5, g6⟩ := SRx.adopt h hg hc hnd.2.1 hf2 hfr' hpu'.2
      simp only [freshN, Bool.and_eq_true, Option.isNone_iff_eq_none, decide_eq_true_eq] at hd
      have hnone : look ((Lev.adopt g (d + 1) cs).2 ++ H) d = none := by
        rw [look_append, hd.1]
        have : look (Lev.adopt g (d + 1) cs).2 d = none := by
          by_cases k : look (Lev.adopt g (d + 1) cs).2 d = none
          · exact k
          · have := adopt_names g cs (d + 1) d k; omega
        rw [this]; rfl
      have hunk : loc' d = .unk := g1.unk d hd.2 hnone
      -- where the slice stands
      have hl : ∃ l, l ≠ .dead ∧ SlRel es l 0 xs.length v ∧ ∀ lc : Nat → Loc, ObjRel w (Im c J) lc xs l f1 := by
        simp only [OwnV] at hv
        rcases hv with ⟨rfl, rfl, ad, rfl⟩ | ⟨b, off, cap, cur, ty, fps, rfl, hb, h0, hall, hfit, hlc, rfl, hR⟩
        · exact ⟨.nil, by simp, ⟨rfl, rfl, ad, rfl⟩, fun _ => ⟨rfl, rfl⟩⟩
        · refine ⟨.at b off es xs.length cur.size, by simp, ⟨rfl, by omega, _, _, rfl, .inr ⟨by simp, by simpa using hfit, hlc⟩⟩, fun lc => ?_⟩
          refine ⟨rfl, h0, hall, cur, ty, fps, hb, rfl, ?_, rfl, OwnR_take hpl hpu'.1 hR⟩
          have := Nat.mul_le_mul_right es hlc
          omega
      obtain ⟨l, hld, hsl, hobj⟩ := hl
      have h2 := g1.add (n := d) (x := xs) (l := l) (fp := f1) (.inl ⟨hd.2, hnone⟩) hld (live_of_look hnone) (hobj _) hnd.1 (by
        intro b hb
        obtain ⟨q1, q2, q3, q4⟩ := hf b (List.mem_append_left _ hb)
        refine ⟨q1, q2, q3, fun m y hm hk => ?_⟩
        rw [live_append] at hm
        cases hlk : look (Lev.adopt g (d + 1) cs).2 m with
        | none =>
          rw [hlk] at hm
          have hm' : live H m = some y := hm
          rw [(g4 m (by rw [look_of_live hm']; simp)).2] at hk
          exact q4 m y hm' hk
        | some z =>
          rw [hlk] at hm
          have hm' : z = some y := hm
          exact hnd.2.2 b hb b (g6 m y (by unfold live; rw [hlk, hm']; rfl) b hk) rfl)
      have hcompat : ∀ m, loc' m = .unk ∨ upd loc' d l m = loc' m ∨ upd loc' d l m = .dead := by
        intro m
        by_cases e : m = d
        · subst e; exact .inl hunk
        · exact .inr (.inl (upd_ne _ _ e))
      refine ⟨_, _, h2, ?_, ?_, ?_, ?_, ?_⟩
      · simp only [Lev.adopt, List.length_cons, List.take_succ_cons, VC, VRel]
        refine ⟨v, _, rfl, ?_, VC_loc hcompat _ _ g2⟩
        rw [upd_same]; exact hsl
      · simp only [List.length_cons, List.take_succ_cons, List.mem_cons]
        rintro u (rfl | hu)
        · exact one
        · exact g3 u hu
      · intro m hm
        have e : m ≠ d := by rintro rfl; exact hm hd.1
        rw [upd_ne _ _ e, upd_ne _ _ e]
        exact g4 m hm
      · intro m
        by_cases e : m = d
        · subst e; exact .inl (h.unk m hd.2 hd.1)
        · rw [upd_ne _ _ e]; exact g5 m
      · intro m y hm b hb
        simp only [Lev.adopt] at hm
        rw [live_cons] at hm
        split at hm
        · rename_i e
          subst e
          rw [upd_same] at hb
          exact List.mem_append_left _ hb
        · rename_i e
          rw [upd_ne _ _ e] at hb
          exact List.mem_append_right _ (g6 m y hm b hb)
    · have hne : ∀ es xs, c0 ≠ .arr es xs := fun es xs e => harr ⟨es, xs, e⟩
      rw [nonarr hne] at hfr hpu ⊢
      obtain ⟨loc', φ', g1, g2, g3, g4, g5, g6⟩ := SRx.adopt h hg hc hnd.2.1 hf2 hfr hpu
      refine ⟨loc', φ', g1, ?_, ?_, g4, g5, fun m y hm b hb => List.mem_append_right _ (g6 m y hm b hb)⟩
      · simp only [List.length_cons, List.take_succ_cons, VC]
        exact ⟨v, _, rfl, hg c0 v f1 hne hv loc' g5, g2⟩
      · simp only [List.length_cons, List.take_succ_cons, List.mem_cons]
        rintro u (rfl | hu)
        · exact one
        · exact g3 u hu
theorem splice_self {α : Type} (us : List α) (k n : Nat) (h : k + n ≤ us.length) : splice us k ((us.drop k).take n) = us := by
  unfold splice
  have e : ((us.drop k).take n).length = n := by rw [List.length_take, List.length_drop]; omega
  rw [e, List.append_assoc, ← List.drop_drop, List.take_append_drop, List.take_append_drop]
theorem fresh_look {H h : Heap} (hf : freshAll H h = true) {m : Nat} (hm : look h m ≠ none) : look H m = none ∧ m < 900000 := by
  unfold freshAll at hf
  induction h with
  | nil => simp [look] at hm
  | cons p h ih =>
    rw [List.all_cons, Bool.and_eq_true] at hf
    obtain ⟨k, v⟩ := p
    rw [look_cons] at hm
    split at hm
    · rename_i e
      subst e
      have := hf.1
      simp only [freshN, Bool.and_eq_true, Option.isNone_iff_eq_none, decide_eq_true_eq] at this
      exact this.1
    · exact ih hf.2 hm
end
end Go.Lev
