/- Slice literals and append. -/
import Derived.Test.YtahjhlnhkoifhaaGreatZG
set_option linter.unusedVariables false
set_option linter.unusedSimpArgs false
namespace Go.Lev

section
variable {P : Program} {c : Ctx} {J : Nat → Prop} {loc : Nat → Loc} {φ : Nat → List Nat} {env : Env} {H : Heap} {a : Act} {w : World} {S : Sig} {o : Oper} {imm : Nat → Prop}

theorem freshN_kills {ns : List Nat} {H : Heap} {n : Nat} (hn : ∀ m, m ∈ ns → look H m ≠ none) (h : freshN H n = true) : freshN (killed ns ++ H) n = true := by
  simp only [freshN, Bool.and_eq_true, Option.isNone_iff_eq_none, decide_eq_true_eq] at h ⊢
  refine ⟨?_, h.2⟩
  rw [look_kills]
  split
  · rename_i e; exact absurd h.1 (hn n e)
  · exact h.1

theorem e_bslice (h : SRx c J loc φ env H a w) {t : TypeId} {len esz : Nat} {z : Row} {ps : List (Nat × Nat × Opd)} {ps' : Array (Nat × Operand)} (ho : o.op = .buildSlice t len ps') (hs : SliceLit P t len esz z ps ps'.toList) (hd : ∀ d, o.dst = some d → d < c.nt)
    {d : Nat} {r : LV × Heap} (he : evE S env H d (.bslice esz z ps) = some r) : Good P c env r.2 o a w r.1 := by
  simp only [evE] at he
  cases hf : fillP env z ps with
  | none => rw [hf] at he; cases he
  | some rr =>
    rw [hf] at he
    simp only [Option.bind_some] at he
    split at he
    · rename_i hc
      cases hp : packC H rr with
      | none => rw [hp] at he; cases he
      | some p =>
        rw [hp] at he
        obtain rfl := Option.some.inj he
        obtain ⟨cells, ty, hrun, k1, k2, k3⟩ := run_bslice (P := P) h.env ho hs hf
        obtain ⟨ns, f, g1, g2, g3, g4, g5, g6⟩ := packC_rel h.hok k1 k2 hp
        have hlen : rr.length / esz = len := by rw [k3, Nat.mul_div_cancel _ hc.1]
        have hcl : cells.toList.length = rr.length := VC_len k1
        have hpl : p.1.length = len * esz := by rw [g5, k3]
        have hn := (SRx.kills ns h).new (n := d * 1000) (ty := ty) (cs := cells) (x := chop esz len p.1) (esz := esz) (freshN_kills g6 hc.2) hc.1 (chop_all hpl) (by rw [chop_len]; simp at hcl; omega) (chop_rows hpl g2) g3 (by
          intro b hb
          obtain ⟨ob', x', q1, q2, q3⟩ := g4 b hb
          obtain ⟨s1, s2, s3⟩ := h.rng ob' x' q2 b q3
          refine ⟨s1, s2, s3, fun m y hm hk => ?_⟩
          obtain ⟨t1, t2⟩ := live_of_kills hm
          exact h.disj ob' m x' y (fun e => t1 (e ▸ q1)) q2 t2 b q3 hk)
        simp only [hlen, g1]
        refine good_val hrun hn ?_ hd
        simp only [VRel, upd_same, SlRel, chop_len]
        refine ⟨by trivial, by omega, _, _, rfl, .inr ⟨by simp, ?_, Nat.le_refl _⟩⟩
        simp at hcl
        simp
        omega
    · cases he

/-! ### append: what is appended -/
theorem OwnV_scalar {lv : LV} {v : Value} {fp : List Nat} (hs : lv.scalar = true) (h : OwnV w imm loc lv v fp) : fp = [] := by
  cases lv <;> simp only [LV.scalar, Bool.false_eq_true] at hs <;> (simp only [OwnV] at h; exact h.2)
theorem OwnC_scalar : ∀ {cs : List LV} {vs : List Value} {fp : List Nat}, cs.all LV.scalar = true → OwnC w imm loc cs vs fp → fp = []
  | [], _, _, _, h => by simpa [OwnC] using h
  | c :: cs, vs, fp, hs, h => by
    simp only [List.all_cons, Bool.and_eq_true] at hs
    simp only [OwnC] at h
    obtain ⟨v, t, f1, f2, rfl, rfl, h1, h2⟩ := h
    rw [OwnV_scalar hs.1 h1, OwnC_scalar hs.2 h2]
    rfl
theorem OwnR_scalar : ∀ {xs : Rows} {vs : List Value} {fp : List Nat}, rowsScalar xs = true → OwnR w imm loc xs vs fp → fp = []
  | [], _, _, _, h => by simpa [OwnR] using h
  | r :: xs, vs, fp, hs, h => by
    simp only [rowsScalar, List.all_cons, Bool.and_eq_true] at hs
    simp only [OwnR] at h
    obtain ⟨f1, f2, rfl, h1, h2⟩ := h
    rw [OwnC_scalar hs.1 h1, OwnR_scalar (by simpa [rowsScalar] using hs.2) h2]
    rfl
theorem ImmV_scalar {lv : LV} {v : Value} (hs : lv.scalar = true) (h : ImmV w imm lv v) : OwnV w imm loc lv v [] := by
  cases lv <;> simp only [LV.scalar, Bool.false_eq_true] at hs <;> (simp only [ImmV] at h; simp only [OwnV]; exact ⟨h, by trivial⟩)
theorem ImmC_scalar : ∀ {cs : List LV} {vs : List Value}, cs.all LV.scalar = true → ImmC w imm cs vs → OwnC w imm loc cs vs []
  | [], _, _, _ => by simp [OwnC]
  | c :: cs, vs, hs, h => by
    simp only [List.all_cons, Bool.and_eq_true] at hs
    simp only [ImmC] at h
    obtain ⟨v, t, rfl, h1, h2⟩ := h
    simp only [OwnC]
    exact ⟨v, t, [], [], rfl, rfl, ImmV_scalar hs.1 h1, ImmC_scalar hs.2 h2⟩
theorem ImmR_scalar : ∀ {xs : Rows} {vs : List Value}, rowsScalar xs = true → ImmR w imm xs vs → OwnR w imm loc xs vs []
  | [], _, _, _ => by simp [OwnR]
  | r :: xs, vs, hs, h => by
    simp only [rowsScalar, List.all_cons, Bool.and_eq_true] at hs
    simp only [ImmR] at h
    simp only [OwnR]
    exact ⟨[], [], rfl, ImmC_scalar hs.1 h.1, ImmR_scalar (by simpa [rowsScalar] using hs.2) h.2⟩
theorem OwnC_ones : ∀ {cs : List LV} {vs : List Value} {fp : List Nat}, OwnC w imm loc cs vs fp → ∀ u ∈ vs.take cs.length, u.oneCell' = true
  | [], _, _, _ => by simp
  | c :: cs, vs, fp, h => by
    simp only [OwnC] at h
    obtain ⟨v, t, f1, f2, rfl, rfl, h1, h2⟩ := h
    simp only [List.length_cons, List.take_succ_cons, List.mem_cons]
    rintro u (rfl | hu)
    · exact OwnV_one h1
    · exact OwnC_ones h2 u hu
theorem OwnR_ones {esz : Nat} : ∀ {xs : Rows} {vs : List Value} {fp : List Nat}, (∀ r ∈ xs, r.length = esz) → OwnR w imm loc xs vs fp → ∀ u ∈ vs.take (xs.length * esz), u.oneCell' = true
  | [], _, _, _, _ => by simp
  | r :: xs, vs, fp, hl, h => by
    simp only [OwnR] at h
    obtain ⟨f1, f2, rfl, h1, h2⟩ := h
    have hr := hl r (by simp)
    intro u hu
    rw [List.length_cons, Nat.add_mul, Nat.one_mul, Nat.add_comm, List.take_add, List.mem_append] at hu
    rcases hu with hu | hu
    · exact OwnC_ones h1 u (by rw [hr]; exact hu)
    · exact OwnR_ones (fun q hq => hl q (by simp [hq])) h2 u (by rw [hr]; exact hu)
theorem OwnR_fits {esz : Nat} {xs : Rows} {vs : List Value} {fp : List Nat} (hl : ∀ r ∈ xs, r.length = esz) (h : OwnR w imm loc xs vs fp) : xs.length * esz ≤ vs.length := by
  rcases OwnR_len h with rfl | h
  · simp
  · rwa [totLen_eq hl] at h
theorem OwnR_take' {esz : Nat} {xs : Rows} {vs : List Value} {fp : List Nat} (hl : ∀ r ∈ xs, r.length = esz) (h : OwnR w imm loc xs vs fp) : OwnR w imm loc xs (vs.take (xs.length * esz)) fp := by
  refine OwnR_vals ?_ h
  rw [totLen_eq hl, List.take_take, Nat.min_self]

/-- The values behind a slice, as rows of cells. -/
structure SlSrc (w : World) (imm : Nat → Prop) (loc : Nat → Loc) (esz : Nat) (v : Value) (rows : Rows) (vals : List Value) (fp : List Nat) : Prop where
  ex : ∃ ad cap, v = .slice ad rows.length cap ∧ ((rows = [] ∧ vals = []) ∨ ∃ b off, ad = some ⟨b, off, none⟩ ∧ ∀ (j : Nat) u, vals[j]? = some u → w.cell? ⟨b, off + j, none⟩ = some u)
  len : vals.length = rows.length * esz
  one : ∀ u ∈ vals, u.oneCell' = true
  all : ∀ r ∈ rows, r.length = esz
  own : OwnR w imm loc rows vals fp

theorem SlSrc.src {esz : Nat} {v : Value} {rows : Rows} {vals : List Value} {fp : List Nat} (h : SlSrc w imm loc esz v rows vals fp) {tx e : TypeId} (hk : P.underlying tx = some (.slice e)) : Src P esz tx v rows.length vals w := by
  obtain ⟨ad, cap, rfl, hv⟩ := h.ex
  rcases hv with ⟨rfl, rfl⟩ | ⟨b, off, rfl, hc⟩
  · cases ad with
    | none => exact Src.ofNil w hk cap
    | some x => exact Src.ofSlice w hk x 0 cap [] (by simp) (by simp) (by simp)
  · exact Src.ofSlice w hk ⟨b, off, none⟩ _ cap vals h.len (fun j u hj => by simpa [Addr.add_lit] using hc j u hj) h.one
theorem SlSrc.first {esz : Nat} {v : Value} {rows : Rows} {vals : List Value} {fp : List Nat} (h : SlSrc w imm loc esz v rows vals fp) : (Builtin.firstCells esz rows.length v).run P w.drew = .ok vals.toArray w.drew := by
  obtain ⟨ad, cap, rfl, hv⟩ := h.ex
  rcases hv with ⟨rfl, rfl⟩ | ⟨b, off, rfl, hc⟩
  · cases ad with
    | none => exact run_firstCells_none w.drew esz 0 0 cap
    | some x => exact run_firstCells_some w.drew esz 0 x 0 cap [] (by simp) (by simp)
  · exact run_firstCells_some w.drew esz _ ⟨b, off, none⟩ _ cap vals h.len (fun j u hj => by simpa [Addr.add_lit] using hc j u hj)

theorem cells_at {b off : Nat} {cur : Array Value} {ty : TypeId} {fr : Nat × Nat} {k : Nat} (hb : w.heap[b]? = some (.cells cur ty fr)) {j : Nat} {u : Value} (hj : ((cur.toList.drop off).take k)[j]? = some u) : w.cell? ⟨b, off + j, none⟩ = some u := by
  rw [cell_of_heap hb]
  rw [List.getElem?_take] at hj
  split at hj
  · rw [List.getElem?_drop] at hj
    simpa using hj
  · cases hj

theorem list_src {esz : Nat} {xs : Rows} {v : Value} (hs : rowsScalar xs = true) (h : ImmV w imm (.list esz xs) v) : ∃ vals, SlSrc w imm loc esz v xs vals [] := by
  simp only [ImmV] at h
  obtain ⟨ad, cap, rfl, _, h⟩ := h
  rcases h with rfl | ⟨b, off, cs, ty, fr, rfl, _, hb, hl, hR⟩
  · exact ⟨[], ⟨ad, cap, rfl, .inl ⟨rfl, rfl⟩⟩, by simp, by simp, by simp, by simp [OwnR]⟩
  · have hO : OwnR w imm loc xs (cs.toList.drop off) [] := ImmR_scalar hs hR
    have hf := OwnR_fits hl hO
    refine ⟨(cs.toList.drop off).take (xs.length * esz), ⟨_, cap, rfl, .inr ⟨b, off, rfl, fun j u hj => cells_at hb hj⟩⟩, ?_, OwnR_ones hl hO, hl, OwnR_take' hl hO⟩
    rw [List.length_take]; omega

theorem ldi_Own {lv : LV} {v : Value} (h : ImmV w imm lv v) : OwnV w imm loc (ldi lv) v [] := by
  have one := ImmV_one h
  cases lv <;> simp only [ldi, OwnV] <;> simp only [ImmV] at h ⊢ <;> first
    | exact ⟨one, by trivial⟩
    | exact ⟨h, by trivial⟩
    | exact ⟨⟨none, 0, h, by simp, .inl (by trivial)⟩, by trivial⟩
theorem ldis_Own : ∀ {cs : List LV} {vs : List Value}, ImmC w imm cs vs → OwnC w imm loc (cs.map ldi) vs []
  | [], _, _ => by simp [OwnC]
  | c :: cs, vs, h => by
    simp only [ImmC] at h
    obtain ⟨v, t, rfl, h1, h2⟩ := h
    simp only [List.map_cons, OwnC]
    exact ⟨v, t, [], [], rfl, rfl, ldi_Own h1, ldis_Own h2⟩
theorem ldiR_Own : ∀ {xs : Rows} {vs : List Value}, ImmR w imm xs vs → OwnR w imm loc (xs.map (·.map ldi)) vs []
  | [], _, _ => by simp [OwnR]
  | r :: xs, vs, h => by
    simp only [ImmR] at h
    simp only [List.map_cons, OwnR, List.length_map]
    exact ⟨[], [], rfl, ldis_Own h.1, ldiR_Own h.2⟩
theorem list_src' {esz : Nat} {xs : Rows} {v : Value} (h : ImmV w imm (.list esz xs) v) : ∃ vals, SlSrc w imm loc esz v (xs.map (·.map ldi)) vals [] := by
  simp only [ImmV] at h
  obtain ⟨ad, cap, rfl, _, h⟩ := h
  rcases h with rfl | ⟨b, off, cs, ty, fr, rfl, _, hb, hl, hR⟩
  · exact ⟨[], ⟨ad, cap, rfl, .inl ⟨rfl, rfl⟩⟩, by simp, by simp, by simp, by simp [OwnR]⟩
  · have hO : OwnR w imm loc (xs.map (·.map ldi)) (cs.toList.drop off) [] := ldiR_Own hR
    have hl' : ∀ r ∈ xs.map (·.map ldi), r.length = esz := by
      intro r hr
      obtain ⟨r', hr', rfl⟩ := List.mem_map.1 hr
      rw [List.length_map]
      exact hl r' hr'
    have hf := OwnR_fits hl' hO
    refine ⟨(cs.toList.drop off).take ((xs.map (·.map ldi)).length * esz), ⟨_, cap, by rw [List.length_map], .inr ⟨b, off, rfl, fun j u hj => cells_at hb hj⟩⟩, ?_, OwnR_ones hl' hO, hl', OwnR_take' hl' hO⟩
    rw [List.length_take]; omega

theorem sl_src {esz : Nat} {x : Rows} {off len : Nat} {v : Value} {l : Loc} {fp : List Nat} (hnd : fp.Nodup) (hobj : ObjRel w imm loc x l fp) (hv : SlRel esz l off len v) :
    ∃ vals f, SlSrc w imm loc esz v (vw x off len) vals f ∧ f.Nodup ∧ (∀ b, b ∈ f → b ∈ fp) ∧ (vw x off len).length = len := by
  have empty : ∀ {ad : Option Addr} {cap : Nat}, (vw x off len).length = len → len = 0 → v = .slice ad 0 cap → ∃ vals f, SlSrc w imm loc esz v (vw x off len) vals f ∧ f.Nodup ∧ (∀ b, b ∈ f → b ∈ fp) ∧ (vw x off len).length = len := by
    intro ad cap h0 h1 h2
    have he : vw x off len = [] := List.eq_nil_of_length_eq_zero (h0.trans h1)
    rw [he]
    exact ⟨[], [], ⟨⟨ad, cap, h2, .inl ⟨rfl, rfl⟩⟩, by simp, by simp, by simp, by simp [OwnR]⟩, List.nodup_nil, by simp, by simp [h1]⟩
  cases l with
  | unk => exact hv.elim
  | dead => exact hobj.elim
  | nil =>
    obtain ⟨h0, h1, ad, h2⟩ := hv
    exact empty (by subst h0; subst h1; simp [vw]) h1 h2
  | «at» b base esz' n sz =>
    obtain ⟨rfl, hle, ad, cap, hv1, hv⟩ := hv
    obtain ⟨hn, hpos, hall, cs, ty, fps, hb, hsz, hfit, rfl, hR⟩ := hobj
    have hlen : (vw x off len).length = len := vw_length x off len (by omega)
    rcases hv with ⟨h0, h1⟩ | ⟨rfl, hsz', hlc⟩
    · exact empty hlen h0 (by rw [hv1, h0])
    · have hl' : ∀ r ∈ vw x off len, r.length = esz' := fun r hr => hall r (List.mem_of_mem_drop (List.mem_of_mem_take hr))
      obtain ⟨f, hf, hR'⟩ := OwnR_vws off len (by omega) hall hR
      rw [List.drop_drop] at hR'
      have hf' := OwnR_fits hl' hR'
      refine ⟨(cs.toList.drop (base + off * esz')).take ((vw x off len).length * esz'), f, ⟨⟨_, cap, by rw [hlen]; exact hv1, .inr ⟨b, base + off * esz', rfl, fun j u hj => cells_at hb hj⟩⟩, ?_, OwnR_ones hl' hR', hl', OwnR_take' hl' hR'⟩, ?_, ?_, hlen⟩
      · rw [List.length_take]; omega
      · exact hf.nodup (List.nodup_cons.1 hnd).2
      · intro k hk
        exact List.mem_cons_of_mem _ (hf.subset hk)

/-! ### append: both arms -/
theorem setCells_setRow {b off : Nat} {cur : Array Value} {ty : TypeId} {vs : List Value} (hb : w.heap[b]? = some (.cells cur ty (0, 0))) (hfit : off + vs.length ≤ cur.size) (h1 : ∀ v ∈ vs, v.oneCell' = true) :
    w.setCells b off vs = w.setRow b (splice cur.toList off vs).toArray := by
  have r1 := run_storeCells_at (default : Program) b off ty vs 0 cur w hb (by omega) h1
  have r2 := run_storeCells_cells (P := (default : Program)) b off vs 0 w (fun j hj => by
    rw [cell_of_heap hb]
    have : off + j < cur.size := by omega
    simp [this]) (fun j hj => by simp [World.frozen?, hb]) h1
  rw [r1] at r2
  simp only [Result.ok.injEq, true_and, Nat.add_zero] at r2
  rw [← r2]
  rfl

structure AppT (P : Program) (t tx : TypeId) (esz bytes : Nat) (e : TypeId) (inf : TypeInfo) (z : Value) : Prop where
  ut : P.underlying t = some (.slice e)
  ux : ∃ e2, P.underlying tx = some (.slice e2)
  hinf : P.info? e = some inf
  size : inf.size = esz
  hbytes : inf.bytes = bytes
  zero : inf.zero = some z
  zsize : z.cells.size = esz
  pos : 0 < esz
  bpos : 0 < bytes

theorem OwnR_app {esz : Nat} {as bs : Rows} {us vs rest : List Value} {f1 f2 : List Nat} (ha : ∀ r ∈ as, r.length = esz) (hb : ∀ r ∈ bs, r.length = esz) (hu : us.length = as.length * esz) (hv : vs.length = bs.length * esz) (h1 : OwnR w imm loc as us f1) (h2 : OwnR w imm loc bs vs f2) :
    OwnR w imm loc (as ++ bs) (us ++ vs ++ rest) (f1 ++ f2) := by
  refine OwnR_join (OwnR_vals ?_ h1) (OwnR_vals ?_ h2)
  · rw [totLen_eq ha, List.append_assoc, ← hu, List.take_left, List.take_length]
  · rw [totLen_eq ha, totLen_eq hb, ← hu, List.append_assoc, List.drop_left, ← hv, List.take_left, List.take_length]

theorem rowsScalar_vw {x : Rows} (h : rowsScalar x = true) (off len : Nat) : rowsScalar (vw x off len) = true := by
  unfold rowsScalar at *
  rw [List.all_eq_true] at *
  intro r hr
  exact h r (List.mem_of_mem_drop (List.mem_of_mem_take hr))

theorem appSrc_rel (h : SRx c J loc φ env H a w) {mv : Bool} {lv : LV} {v : Value} {esz : Nat} {src : Rows × Heap} (hv : VRel w (Im c J) loc lv v) (hs : appSrc esz H mv lv = some src) :
    ∃ kl vals f, src.2 = killed kl ∧ SlSrc w (Im c J) loc esz v src.1 vals f ∧ f.Nodup ∧ (∀ b, b ∈ f → ∃ o x, o ∈ kl ∧ live H o = some x ∧ b ∈ φ o) ∧ (∀ o, o ∈ kl → look H o ≠ none) := by
  cases lv <;> simp only [appSrc] at hs <;> try (cases hs; done)
  case nil =>
    obtain rfl := Option.some.inj hs
    simp only [VRel] at hv
    exact ⟨[], [], [], rfl, ⟨⟨none, 0, hv, .inl ⟨rfl, rfl⟩⟩, by simp, by simp, by simp, by simp [OwnR]⟩, List.nodup_nil, by simp, by simp⟩
  case list es ys =>
    split at hs
    · rename_i hes
      subst hes
      simp only [VRel] at hv
      split at hs
      · rename_i hsc
        obtain rfl := Option.some.inj hs
        obtain ⟨vals, hS⟩ := list_src (loc := loc) hsc hv
        exact ⟨[], vals, [], rfl, hS, List.nodup_nil, by simp, by simp⟩
      · obtain rfl := Option.some.inj hs
        obtain ⟨vals, hS⟩ := list_src' (loc := loc) hv
        exact ⟨[], vals, [], rfl, hS, List.nodup_nil, by simp, by simp⟩
    · cases hs
  case sl es o off len =>
    split at hs
    · rename_i hes
      subst hes
      cases hlv : live H o with
      | none => rw [hlv] at hs; cases hs
      | some y =>
        rw [hlv] at hs
        simp only [Option.bind_some] at hs
        simp only [VRel] at hv
        obtain ⟨vals, f, hS, hnd, hf, _⟩ := sl_src (h.nodup o y hlv) (h.obj o y hlv) hv
        cases mv
        · simp only [Bool.false_eq_true, if_false] at hs
          split at hs
          · rename_i hsc
            obtain rfl := Option.some.inj hs
            have : f = [] := OwnR_scalar (rowsScalar_vw hsc off len) hS.own
            subst this
            exact ⟨[], vals, [], rfl, hS, List.nodup_nil, by simp, by simp⟩
          · cases hs
        · simp only [if_true] at hs
          split at hs
          · obtain rfl := Option.some.inj hs
            refine ⟨[o], vals, f, rfl, hS, hnd, fun b hb => ⟨o, y, by simp, hlv, hf b hb⟩, ?_⟩
            intro o' ho'
            rw [List.mem_singleton] at ho'
            subst ho'
            rw [look_of_live hlv]; simp
          · cases hs
    · cases hs

/-- The arm that makes a new row. -/
theorem app_grow (hs : SRx c J loc φ env H a w) {n : Nat} (hn : freshN H n = true) {t tx ty e : TypeId} {esz bytes : Nat} {inf : TypeInfo} {z : Value} (hT : AppT P t tx esz bytes e inf z) {xs ys : Rows} {xv yv : Value} {olds news : List Value} {f1 f2 : List Nat} {ad : Option Addr} {cap : Nat}
    (hx : SlSrc w (Im c J) loc esz xv xs olds f1) (hy : SlSrc w (Im c J) loc esz yv ys news f2) (hxv : xv = .slice ad xs.length cap) (hg : cap < xs.length + ys.length) (hb : (xs.length + ys.length) * bytes ≤ 140737488355328)
    (hnd : (f1 ++ f2).Nodup) (hf : ∀ b, b ∈ f1 ++ f2 → (b ∈ c.O0 ∨ c.w0.heap.size ≤ b) ∧ b < w.heap.size ∧ ¬ J b ∧ ∀ m y, live H m = some y → b ∉ φ m) :
    ∃ w' v loc' φ', (Builtin.append_ #[t, tx] ty #[xv, yv]).run P w = .ok v w' ∧ SRx c J loc' φ' env ((n, some (xs ++ ys)) :: H) a w' ∧ VRel w' (Im c J) loc' (.sl esz n 0 (xs.length + ys.length)) v := by
  subst hxv
  obtain ⟨e2, hux⟩ := hT.ux
  have hsrc := hy.src (P := P) hux
  have hold := hx.first (P := P)
  rw [← hT.size] at hsrc hold
  have h63 : ((xs.length + ys.length : Nat) : Int) ≤ 9223372036854775807 := by
    have : (xs.length + ys.length) * 1 ≤ (xs.length + ys.length) * bytes := Nat.mul_le_mul_left _ hT.bpos
    omega
  have hrun := run_append_grow_src w t tx ty e inf z hT.ut hT.hinf hT.zero ad xs.length cap olds hold yv ys.length news hsrc hg h63 (by rw [hT.hbytes]; exact growslice_fits hg hb)
  have hge := grownCap_ge w (xs.length + ys.length) cap e
  generalize grownCap w (xs.length + ys.length) cap e = gc at hrun hge
  have hsz : ((olds ++ news).toArray ++ Builtin.zeroCells z.cells (gc - (xs.length + ys.length))).size = gc * esz := by
    simp only [Array.size_append, List.size_toArray, List.length_append, size_zeroCells, hx.len, hy.len, hT.zsize, ← Nat.add_mul]
    congr 1
    omega
  have hall : ∀ r ∈ xs ++ ys, r.length = esz := by
    intro r hr
    rcases List.mem_append.1 hr with hr | hr
    · exact hx.all r hr
    · exact hy.all r hr
  have hd : SRx c J loc φ env H a w.drew := hs.pushed rfl rfl rfl (Nat.le_refl _) (fun _ _ => rfl)
  have hnew := hd.new (n := n) (ty := e) (cs := (olds ++ news).toArray ++ Builtin.zeroCells z.cells (gc - (xs.length + ys.length))) (x := xs ++ ys) (esz := esz) hn hT.pos hall
    (by rw [hsz, List.length_append]; exact Nat.mul_le_mul_right _ hge)
    (by
      have := OwnR_app (rest := (Builtin.zeroCells z.cells (gc - (xs.length + ys.length))).toList) hx.all hy.all hx.len hy.len hx.own hy.own
      have e1 : ((olds ++ news).toArray ++ Builtin.zeroCells z.cells (gc - (xs.length + ys.length))).toList = olds ++ news ++ (Builtin.zeroCells z.cells (gc - (xs.length + ys.length))).toList := by simp
      rw [e1]
      exact OwnR_mono (w := w) (w' := w.drew) _ _ _ (fun _ k => k) (fun _ _ => rfl) _ _ _ (fun _ _ => rfl) this) hnd hf
  refine ⟨_, _, _, _, hrun, hnew, ?_⟩
  simp only [VRel, upd_same, SlRel]
  refine ⟨by trivial, by simp, _, _, rfl, .inr ⟨by simp, ?_, hge⟩⟩
  rw [hsz]; simp

theorem run_app {c0 : Call} {x' y' : Operand} {t tx : TypeId} (ho : o.op = .call c0) (hc : c0.callee = .builtin .append) (ha : c0.args.toList = [x', y']) (ht : c0.argTypes.toList = [t, tx]) {v : Value} {w' : World} (hr : ∀ ty, (Builtin.append_ #[t, tx] ty #[a.eval x', a.eval y']).run P w = .ok v w') :
    (execOp a.eval o).run P w = .ok (.value v) w' := by
  have ea : c0.args = #[x', y'] := by rw [← Array.toArray_toList (xs := c0.args), ha]
  have et : c0.argTypes = #[t, tx] := by rw [← Array.toArray_toList (xs := c0.argTypes), ht]
  have := hr o.type
  simp [execOp, ho, resolve, hc, ea, et, invoke, builtin, this]

/-- Nothing is appended, and there is no memory. -/
theorem app_none {t tx ty e : TypeId} {esz bytes : Nat} {inf : TypeInfo} {z : Value} (hT : AppT P t tx esz bytes e inf z) {yv : Value} {news : List Value} {f2 : List Nat} {ad : Option Addr} (hy : SlSrc w imm loc esz yv [] news f2) :
    (Builtin.append_ #[t, tx] ty #[.slice ad 0 0, yv]).run P w = .ok (.slice ad 0 0) w := by
  obtain ⟨e2, hux⟩ := hT.ux
  have hsrc := hy.src (P := P) hux
  have hn : news = [] := List.eq_nil_of_length_eq_zero (by simpa using hy.len)
  subst hn
  have h1 : (Builtin.firstCells esz 0 yv).run P w = .ok #[] w := hsrc.cells
  have h2 : (Builtin.lenOf yv).run P w = .ok 0 w := hsrc.len w
  cases ad <;> simp [Builtin.append_, run_underlying hT.ut, run_underlying hux, sizeOf, typeInfo, hT.hinf, h1, h2, hT.size, storeCells]

theorem e_app (h : SRx c J loc φ env H a w) {esz bytes : Nat} {mv : Bool} {x y : Opd} {c0 : Call} {x' y' : Operand} {t tx e : TypeId} {inf : TypeInfo} {z : Value} (ho : o.op = .call c0) (hc : c0.callee = .builtin .append) (ha : c0.args.toList = [x', y']) (ht : c0.argTypes.toList = [t, tx])
    (hT : AppT P t tx esz bytes e inf z) (hx : opdOk x x' = true) (hy : opdOk y y' = true) (hd : ∀ d, o.dst = some d → d < c.nt) {d : Nat} {r : LV × Heap} (he : evE S env H d (.app esz bytes mv x y) = some r) : Good P c env r.2 o a w r.1 := by
  have hxr := opd_rel h.env hx
  have hyr := opd_rel h.env hy
  simp only [evE] at he
  cases hsrc : appSrc esz H mv (y.ev env) with
  | none => rw [hsrc] at he; cases he
  | some src =>
    rw [hsrc] at he
    simp only [Option.bind_some] at he
    obtain ⟨kl, news, f2, hk2, hS, hnd2, hf2, hkl⟩ := appSrc_rel h hyr hsrc
    split at he
    · rename_i hfr
      rw [hk2] at he
      have hs := SRx.kills kl h
      have hfrk := freshN_kills hkl hfr
      -- the blocks that come with what is appended
      have hb2 : ∀ b, b ∈ f2 → (b ∈ c.O0 ∨ c.w0.heap.size ≤ b) ∧ b < w.heap.size ∧ ¬ J b ∧ ∀ m y, live (killed kl ++ H) m = some y → b ∉ φ m := by
        intro b hb
        obtain ⟨ob, xo, q1, q2, q3⟩ := hf2 b hb
        obtain ⟨s1, s2, s3⟩ := h.rng ob xo q2 b q3
        refine ⟨s1, s2, s3, fun m y hm hk => ?_⟩
        obtain ⟨t1, t2⟩ := live_of_kills hm
        exact h.disj ob m xo y (fun e => t1 (e ▸ q1)) q2 t2 b q3 hk
      -- nothing was there before
      have fromNil : ∀ (H1 : Heap), SRx c J loc φ env H1 a w → freshN H1 (d * 1000) = true → (∀ b, b ∈ f2 → (b ∈ c.O0 ∨ c.w0.heap.size ≤ b) ∧ b < w.heap.size ∧ ¬ J b ∧ ∀ m y, live H1 m = some y → b ∉ φ m) → ∀ ad, a.eval x' = .slice ad 0 0 → src.1.length * bytes ≤ 140737488355328 →
          Good P c env ((d * 1000, some src.1) :: H1) o a w (.sl esz (d * 1000) 0 src.1.length) := by
        intro H1 hs1 hfr1 hb1 ad hxv hbd
        by_cases h0 : src.1 = []
        · rw [h0] at hS ⊢
          have hrun := run_app ho hc ha ht (P := P) (w := w) (fun ty => by rw [hxv]; exact app_none hT hS)
          have hfr2 := hfr1
          simp only [freshN, Bool.and_eq_true, Option.isNone_iff_eq_none, decide_eq_true_eq] at hfr2
          have := hs1.add (n := d * 1000) (x := []) (l := .nil) (fp := []) (.inl ⟨hfr2.2, hfr2.1⟩) (by simp) (live_of_look hfr2.1) ⟨rfl, rfl⟩ List.nodup_nil (by simp)
          refine good_val hrun this ?_ hd
          simp only [VRel, upd_same, SlRel]
          exact ⟨by trivial, by simp, ad, rfl⟩
        · have hpos : 0 < src.1.length := List.length_pos_iff.2 h0
          have hxs : SlSrc w (Im c J) loc esz (a.eval x') [] [] [] := ⟨⟨ad, 0, hxv, .inl ⟨rfl, rfl⟩⟩, by simp, by simp, by simp, by simp [OwnR]⟩
          have key := fun ty => app_grow (ty := ty) hs1 hfr1 hT hxs hS hxv (by simpa using hpos) (by simpa using hbd) (by simpa using hnd2) (by simpa using hb1)
          obtain ⟨w', v, loc', φ', k1, k2, k3⟩ := key o.type
          have hrun : (execOp a.eval o).run P w = .ok (.value v) w' := by
            have ea : c0.args = #[x', y'] := by rw [← Array.toArray_toList (xs := c0.args), ha]
            have et : c0.argTypes = #[t, tx] := by rw [← Array.toArray_toList (xs := c0.argTypes), ht]
            simp [execOp, ho, resolve, hc, ea, et, invoke, builtin, k1]
          refine good_val hrun (by simpa using k2) (by simpa using k3) hd
      split at he
      · rename_i es hxe
        rw [hxe] at hxr
        simp only [VRel] at hxr
        split at he
        · rename_i hbd
          obtain rfl := Option.some.inj he
          exact fromNil _ hs hfrk hb2 none hxr hbd
        · cases he
      · rename_i es ob off len hxe
        rw [hxe] at hxr
        simp only [VRel] at hxr
        cases hlv : live (killed kl ++ H) ob with
        | none => rw [hlv] at he; cases he
        | some xx =>
          rw [hlv] at he
          simp only [Option.bind_some] at he
          split at he
          · rename_i hcond
            obtain ⟨rfl, hend, hbd⟩ := hcond
            obtain rfl := Option.some.inj he
            have hs2 := hs.kill ob
            have hobj := hs.obj ob xx hlv
            have hnd0 := hs.nodup ob xx hlv
            have hrng := hs.rng ob xx hlv
            have hkill : ∀ m y, live ((ob, none) :: (killed kl ++ H)) m = some y → m ≠ ob ∧ live (killed kl ++ H) m = some y := by
              intro m y hm
              rw [live_cons] at hm
              split at hm
              · cases hm
              · rename_i e; exact ⟨e, hm⟩
            have hfr2 : freshN ((ob, none) :: (killed kl ++ H)) (d * 1000) = true := by
              simp only [freshN, Bool.and_eq_true, Option.isNone_iff_eq_none, decide_eq_true_eq] at hfrk ⊢
              refine ⟨?_, hfrk.2⟩
              rw [look_cons, if_neg]
              · exact hfrk.1
              · intro e
                rw [e, look_of_live hlv] at hfrk
                cases hfrk.1
            have hb2' : ∀ b, b ∈ f2 → (b ∈ c.O0 ∨ c.w0.heap.size ≤ b) ∧ b < w.heap.size ∧ ¬ J b ∧ ∀ m y, live ((ob, none) :: (killed kl ++ H)) m = some y → b ∉ φ m := by
              intro b hb
              obtain ⟨q1, q2, q3, q4⟩ := hb2 b hb
              exact ⟨q1, q2, q3, fun m y hm => q4 m y (hkill m y hm).2⟩
            have hbo : ∀ b, b ∈ φ ob → (b ∈ c.O0 ∨ c.w0.heap.size ≤ b) ∧ b < w.heap.size ∧ ¬ J b ∧ ∀ m y, live ((ob, none) :: (killed kl ++ H)) m = some y → b ∉ φ m := by
              intro b hb
              obtain ⟨q1, q2, q3⟩ := hrng b hb
              refine ⟨q1, q2, q3, fun m y hm => ?_⟩
              obtain ⟨g1, g2⟩ := hkill m y hm
              exact hs.disj ob m xx y (fun e => g1 e.symm) hlv g2 b hb
            have nilCase : ∀ ad, a.eval x' = .slice ad 0 0 → len = 0 → vw xx off len = [] → Good P c env ((d * 1000, some (vw xx off len ++ src.1)) :: (ob, none) :: (killed kl ++ H)) o a w (.sl es (d * 1000) 0 (len + src.1.length)) := by
              intro ad hv hl0 hvw
              rw [hvw, hl0, List.nil_append, Nat.zero_add]
              exact fromNil _ hs2 hfr2 hb2' ad hv (by rw [hl0, Nat.zero_add] at hbd; exact hbd)
            obtain ⟨olds, f1, hX, hnd1, hf1, hvl⟩ := sl_src hnd0 hobj hxr
            have hdis : ∀ b, b ∈ f1 → ∀ b', b' ∈ f2 → b ≠ b' := by
              rintro b hb b' hb' rfl
              obtain ⟨_, _, _, q4⟩ := hb2 b hb'
              exact q4 ob xx hlv (hf1 b hb)
            generalize hloc : loc ob = l at hxr hobj
            cases l with
            | unk => exact hxr.elim
            | dead => exact hobj.elim
            | nil =>
              obtain ⟨h0, h1, ad, hv⟩ := hxr
              exact nilCase ad hv h1 (List.eq_nil_of_length_eq_zero (hvl.trans h1))
            | «at» b base esz n sz =>
              obtain ⟨rfl, hle, ad, cap, hv, hxr⟩ := hxr
              obtain ⟨hn, hpos, hall, cur, ty, fps, hb, hsz, hfit, hfp, hR⟩ := hobj
              rcases hxr with ⟨h0, h1⟩ | ⟨rfl, hsz', hlc⟩
              · subst h0; subst h1
                exact nilCase ad hv rfl (List.eq_nil_of_length_eq_zero hvl)
              · have hv' : a.eval x' = .slice (some ⟨b, base + off * esz, none⟩) (vw xx off len).length cap := by rw [hvl]; exact hv
                by_cases hroom : len + src.1.length ≤ cap
                · -- there is room
                  obtain ⟨e2, hux⟩ := hT.ux
                  have hsrc' := hS.src (P := P) hux
                  rw [← hT.size] at hsrc'
                  have hnl := hS.len
                  have hm : (off + (len + src.1.length)) * esz ≤ (off + cap) * esz := Nat.mul_le_mul_right _ (by omega)
                  have hspace : base + off * esz + len * esz + news.length ≤ cur.size := by
                    rw [hsz, hnl]
                    simp only [Nat.add_mul] at hm hsz'
                    omega
                  have hrun := fun ty' => run_append_room_src w t tx ty' e inf hT.ut hT.hinf b (base + off * esz) len cap (a.eval y') src.1.length news hsrc' hroom
                    (fun j hj => by
                      rw [hT.size, cell_of_heap hb]
                      have : base + off * esz + len * esz + j < cur.size := by omega
                      simp [this])
                    (fun j hj => by simp [World.frozen?, hb])
                  simp only [hT.size] at hrun
                  rw [setCells_setRow hb hspace hS.one] at hrun
                  have hbob : b ∈ φ ob := by rw [hfp]; simp
                  obtain ⟨hb1, hb2q, hb3, hb4⟩ := hbo b hbob
                  have hbI : ¬ Im c J b := hs.not_imm hlv hbob
                  obtain ⟨cells, hcells⟩ : ∃ cells, cells = splice cur.toList (base + off * esz + len * esz) news := ⟨_, rfl⟩
                  rw [← hcells] at hrun
                  have hlt : cur.toList.length = cur.size := Array.length_toList
                  have hclen : cells.length = cur.size := by rw [hcells, splice_length _ _ _ (by omega), hlt]
                  have hw' : ∀ k, k ≠ b → (w.setRow b cells.toArray).heap[k]? = w.heap[k]? := fun k hk => setRow_other w b _ hk
                  have h3 := hs2.world (w' := w.setRow b cells.toArray) rfl rfl rfl (by rw [setRow_size]; exact Nat.le_refl _) (by
                    rintro k hk (⟨m, y, hm, hk⟩ | hk | ⟨hk1, hk2⟩)
                    · exact hw' k (fun e => hb4 m y hm (e ▸ hk))
                    · exact hw' k (fun e => hbI (e ▸ hk))
                    · refine hw' k ?_
                      rintro rfl
                      rcases hb1 with q | q
                      · exact hk2 q
                      · omega)
                  have hb2'' : b ∉ f2 := fun hk => (hb2 b hk).2.2.2 ob xx hlv hbob
                  obtain ⟨f, hfs, hR'⟩ := OwnR_vws off len (by omega) hall hR
                  rw [List.drop_drop] at hR'
                  have hnd0' := hnd0
                  rw [hfp, List.nodup_cons] at hnd0'
                  have hfb : b ∉ f := fun hk => hnd0'.1 (hfs.subset hk)
                  have hfo : ∀ k, k ∈ f → k ∈ φ ob := fun k hk => by rw [hfp]; exact List.mem_cons_of_mem _ (hfs.subset hk)
                  have hallv : ∀ r ∈ vw xx off len, r.length = esz := fun r hr => hall r (List.mem_of_mem_drop (List.mem_of_mem_take hr))
                  have hcd : cells.drop (base + off * esz) = splice (cur.toList.drop (base + off * esz)) (len * esz) news := by
                    rw [hcells, splice_dropLe _ _ _ _ (by omega)]
                  have hown : OwnR w (Im c J) loc (vw xx off len ++ src.1) (cells.drop (base + off * esz)) (f ++ f2) := by
                    have hld : (cur.toList.drop (base + off * esz)).length = cur.size - (base + off * esz) := by rw [List.length_drop, hlt]
                    refine OwnR_join (OwnR_vals ?_ hR') (OwnR_vals ?_ hS.own)
                    · rw [totLen_eq hallv, hvl, hcd, splice_take _ _ _ (Nat.le_refl _) (by omega)]
                    · rw [totLen_eq hallv, totLen_eq hS.all, hvl, hcd, ← hnl, splice_mid _ _ _ (by omega), List.take_length]
                  have hmem : ∀ k, k ∈ f ++ f2 → k ≠ b := by
                    rintro k hk rfl
                    rcases List.mem_append.1 hk with hk | hk
                    · exact hfb hk
                    · exact hb2'' hk
                  have hunk : loc (d * 1000) = .unk := by
                    simp only [freshN, Bool.and_eq_true, Option.isNone_iff_eq_none, decide_eq_true_eq] at hfr2
                    exact hs2.unk _ hfr2.2 hfr2.1
                  have hown2 : OwnR (w.setRow b cells.toArray) (Im c J) (upd loc (d * 1000) (.at b (base + off * esz) esz (vw xx off len ++ src.1).length sz)) (vw xx off len ++ src.1) (cells.drop (base + off * esz)) (f ++ f2) := by
                    refine OwnR_loc (loc := loc) (fun m => ?_) _ _ _ (OwnR_mono _ _ _ (fun _ k => k) (fun k hk => hw' k (fun e => hbI (e ▸ hk))) _ _ _ (fun k hk => hw' k (hmem k hk)) hown)
                    by_cases e : m = d * 1000
                    · subst e; exact .inl hunk
                    · exact .inr (.inl (upd_ne _ _ e))
                  have hlen2 : (vw xx off len ++ src.1).length = len + src.1.length := by rw [List.length_append, hvl]
                  have hfr3 := hfr2
                  simp only [freshN, Bool.and_eq_true, Option.isNone_iff_eq_none, decide_eq_true_eq] at hfr3
                  have hadd := h3.add (n := d * 1000) (x := vw xx off len ++ src.1) (l := .at b (base + off * esz) esz (vw xx off len ++ src.1).length sz) (fp := b :: (f ++ f2)) (.inl ⟨hfr3.2, hfr3.1⟩) (by simp) (live_of_look hfr3.1) (by
                    refine ⟨rfl, hpos, ?_, cells.toArray, ty, f ++ f2, setRow_heap w b cur _ ty (0, 0) hb, by simp [hclen, hsz], ?_, rfl, by simpa using hown2⟩
                    · intro r hr
                      rcases List.mem_append.1 hr with hr | hr
                      · exact hallv r hr
                      · exact hS.all r hr
                    · rw [hlen2]
                      simp only [Nat.add_mul] at hm hsz' ⊢
                      omega) (by
                    rw [List.nodup_cons]
                    refine ⟨fun hk => hmem b hk rfl, ?_⟩
                    rw [List.nodup_append]
                    refine ⟨hfs.nodup hnd0'.2, hnd2, ?_⟩
                    rintro k hk k' hk' rfl
                    exact (hb2 k hk').2.2.2 ob xx hlv (hfo k hk)) (by
                    intro k hk
                    rw [setRow_size]
                    rcases List.mem_cons.1 hk with rfl | hk
                    · exact ⟨hb1, hb2q, hb3, hb4⟩
                    · rcases List.mem_append.1 hk with hk | hk
                      · exact hbo k (hfo k hk)
                      · exact hb2' k hk)
                  refine good_val (run_app ho hc ha ht (fun ty' => by rw [hv]; exact hrun ty')) hadd ?_ hd
                  simp only [VRel, upd_same, SlRel, hlen2]
                  refine ⟨by trivial, by omega, _, _, rfl, .inr ⟨by simp, ?_, hroom⟩⟩
                  simp only [Nat.add_mul] at hsz' ⊢
                  omega
                · have key := fun ty => app_grow (ty := ty) hs2 hfr2 hT hX hS hv' (by rw [hvl]; omega) (by rw [hvl]; exact hbd)
                    (by rw [List.nodup_append]; exact ⟨hnd1, hnd2, hdis⟩) (by
                      intro k hk
                      rcases List.mem_append.1 hk with hk | hk
                      · exact hbo k (hf1 k hk)
                      · exact hb2' k hk)
                  obtain ⟨w', v, loc', φ', k1, k2, k3⟩ := key o.type
                  have hrun : (execOp a.eval o).run P w = .ok (.value v) w' := by
                    have ea : c0.args = #[x', y'] := by rw [← Array.toArray_toList (xs := c0.args), ha]
                    have et : c0.argTypes = #[t, tx] := by rw [← Array.toArray_toList (xs := c0.argTypes), ht]
                    simp [execOp, ho, resolve, hc, ea, et, invoke, builtin, k1]
                  rw [hvl] at k3
                  exact good_val hrun k2 k3 hd
          · cases he
      · cases he
    · cases he
end
end Go.Lev
