/- Checks: what the machine's operation is, against the logical one; and that each step is right. -/
import Derived.Test.YtahjhlnhkoifhaaGreatZI
import Derived.Laws.BytesString
set_option linter.unusedVariables false
set_option linter.unusedSimpArgs false
namespace Go.Lev

def sliceLitB (P : Program) (t : TypeId) (len esz : Nat) (z : Row) (ps : List (Nat × Nat × Opd)) (ps' : List (Nat × Operand)) : Bool :=
  match P.underlying t with
  | some (.slice e) => match P.info? e with
    | some inf => match inf.zero with
      | some zv => decide (inf.size = esz) && decide (len * esz ≤ 16777216) && decide (z.length = len * esz) && zOk z (madeCells zv.cells (len * esz)).toList && placeOk P (fun i => some (i * esz, esz)) ps ps' && decide (0 < esz)
      | none => false
    | none => false
  | _ => false
theorem sliceLitB_ok {P : Program} {t : TypeId} {len esz : Nat} {z : Row} {ps : List (Nat × Nat × Opd)} {ps' : List (Nat × Operand)} (h : sliceLitB P t len esz z ps ps' = true) : SliceLit P t len esz z ps ps' := by
  unfold sliceLitB at h
  split at h
  · rename_i e hu
    split at h
    · rename_i inf hi
      split at h
      · rename_i zv hz
        simp only [Bool.and_eq_true, decide_eq_true_eq] at h
        exact ⟨⟨e, inf, zv, hu, hi, h.1.1.1.1.1, hz, h.1.1.1.1.2, h.1.1.1.2, h.1.1.2⟩, h.1.2, h.2⟩
      · cases h
    · cases h
  · cases h

def chkQX (P : Program) (k : QK) (o : Oper) : Bool :=
  match k with
  | .strB x => (match o.op with
    | .convert src dst x' => (match P.underlying src with
      | some (.slice e) => (match P.underlying e with
        | some (.int .u8) => true
        | _ => false)
      | _ => false) && (match P.underlying dst with
      | some .string => true
      | _ => false) && opdOk x x'
    | _ => false)
  | .nilck x => (match o.op with
    | .nilCheck x' => opdOk x x'
    | _ => false)
  | .iagg esz len ag x i => (match o.op with
    | .index t x' i' => (match P.underlying t with
      | some (.array n e) => decide (tySize P e = some esz) && decide (tyAgg P e = some ag) && decide (n = len) && (ag || decide (esz = 1)) && decide (0 < esz)
      | _ => false) && opdOk x x' && opdOk i i'
    | _ => false)
  | .eqa neg ks x y => (match o.op with
    | .binOp op' t x' y' _ => (if neg then decide (op' = .neq) else decide (op' = .eql)) && (match P.underlying t with
      | some (.struct fields) => flatF P 0 ks fields.toList
      | _ => false) && decide (P.eqGuardType P.depth t = false) && decide (P.stoodInHeld t = false) && opdOk x x' && opdOk y y'
    | _ => false)
  | .faddr off x => (match o.op with
    | .fieldAddr t x' f => (match P.underlying t with
      | some (.struct fields) => match fields[f]? with
        | some fd => decide (fd.offset = off) && (match tySize P fd.type with
          | some sz => decide (0 < sz)
          | none => false)
        | none => false
      | _ => false) && opdOk x x'
    | _ => false)
  | .bslice esz z ps => (match o.op with
    | .buildSlice t len ps' => sliceLitB P t len esz z ps ps'.toList
    | _ => false)
  | .call f args => (match o.op with
    | .call c => (match c.callee with
      | .value (.func g) => decide (f = g)
      | _ => false) && opdsOk args c.args.toList
    | _ => false)
  | .callv x args => (match o.op with
    | .call c => (match c.callee with
      | .value y => opdOk x y
      | _ => false) && opdsOk args c.args.toList
    | _ => false)
  | .field _ _ _ _ => false
  | k => chkQ P k o

def appB (P : Program) (t tx : TypeId) (esz bytes : Nat) : Bool :=
  match P.underlying t, P.underlying tx with
  | some (.slice e), some (.slice _) => match P.info? e with
    | some inf => match inf.zero with
      | some z => decide (inf.size = esz) && decide (inf.bytes = bytes) && decide (z.cells.size = esz) && decide (0 < esz) && decide (0 < bytes)
      | none => false
    | none => false
  | _, _ => false
theorem appB_ok {P : Program} {t tx : TypeId} {esz bytes : Nat} (h : appB P t tx esz bytes = true) : ∃ e inf z, AppT P t tx esz bytes e inf z := by
  unfold appB at h
  split at h
  · rename_i e e2 h1 h2
    split at h
    · rename_i inf hi
      split at h
      · rename_i z hz
        simp only [Bool.and_eq_true, decide_eq_true_eq] at h
        exact ⟨e, inf, z, h1, ⟨e2, h2⟩, hi, h.1.1.1.1, h.1.1.1.2, hz, h.1.1.2, h.1.2, h.2⟩
      · cases h
    · cases h
  · cases h

def chkE (P : Program) (k : EK) (o : Oper) : Bool :=
  match k, o.op with
  | .alloc z, .alloc t => tyZero P t z
  | .box n x, .box t x' => opdOk x x' && decide (0 < n)
  | .store n _ x v, .store t x' v' => decide (o.dst = none) && decide (tySize P t = some n) && opdOk x x' && opdOk v v'
  | .eload n ag x, .load t x' => decide (tySize P t = some n) && decide (tyAgg P t = some ag) && (ag || decide (n = 1)) && opdOk x x'
  | .bslice esz z ps, .buildSlice t len ps' => sliceLitB P t len esz z ps ps'.toList
  | .mks z bytes l k, .makeSlice t l' k' => (match P.underlying t with
    | some (.slice e) => tyZero P e z && (match P.info? e with
      | some inf => decide (inf.bytes = bytes)
      | none => false)
    | _ => false) && decide (0 < bytes) && opdOk l l' && opdOk k k'
  | .app esz bytes _ x y, .call c => (match c.callee, c.args.toList, c.argTypes.toList with
    | .builtin .append, [x', y'], [t, tx] => appB P t tx esz bytes && opdOk x x' && opdOk y y'
    | _, _, _ => false)
  | .call f args _, .call c => (match c.callee with
    | .value (.func g) => decide (f = g)
    | _ => false) && opdsOk args c.args.toList
  | _, _ => false

def chkK (P : Program) (k : FK) (o : Oper) : Bool :=
  match k with
  | .q k => chkQX P k o
  | .e k => chkE P k o
  | .pick c x y => match o.op with
    | .pick c' x' y' => opdOk c c' && opdOk x x' && opdOk y y'
    | _ => false

section
variable {P : Program} {c : Ctx} {J : Nat → Prop} {loc : Nat → Loc} {φ : Nat → List Nat} {env : Env} {H Hq : Heap} {a : Act} {w : World} {S : Sig} {o : Oper}

theorem good_q (h : SRx c J loc φ env H a w) {lv : LV} (hd : ∀ d, o.dst = some d → d < c.nt) (hq : QOk P o a w (Im c J) loc lv) : Good P c env H o a w lv := by
  obtain ⟨v, h1, h2⟩ := hq
  exact good_val h1 h h2 hd

theorem good_call (hd : ∀ d, o.dst = some d → d < c.nt) {cl : Call} {y : Operand} {f : FuncId} {caps : List Value} (ho : o.op = .call cl) (hc : cl.callee = .value y) (hy : a.eval y = .func (.func f) #[] caps.toArray) (hf : okF P f) {lv : LV} {H' : Heap}
    (hr : Calls P f (cl.args.toList.map a.eval ++ caps).toArray w fun e w' => ∃ v, e = .returned v ∧ ∃ J' loc' φ', SRx c J' loc' φ' env H' a w' ∧ VRel w' (Im c J') loc' lv v) : Good P c env H' o a w lv := by
  refine OpStep.of_call (run_call ho hc hy hf) (hr.mono ?_)
  rintro e w' ⟨v, rfl, J', loc', φ', hs, hv⟩
  refine ⟨v, rfl, ?_⟩
  cases hdst : o.dst with
  | none => exact hs.sr
  | some d => exact (hs.put (hd d hdst) hv).sr

theorem chkQ_ok (hS : SigOk P S) (h : SRx c J loc φ env H a w) (hsub : ∀ n x, live Hq n = some x → live H n = some x) (hd : ∀ d, o.dst = some d → d < c.nt) {k : QK} (hnf : ∀ off x, k ≠ .faddr off x) (hc : chkQ P k o = true) {lv : LV} (he : evQ S env Hq k = some lv) : Good P c env H o a w lv := by
  have hH : HRel w (Im c J) loc φ Hq := fun n x hn => h.obj n x (hsub n x hn)
  have hnd := h.nodead
  have opd : ∀ {x : Opd} {x' : Operand}, opdOk x x' = true → VRel w (Im c J) loc (x.ev env) (a.eval x') := fun hx => opd_rel h.env hx
  unfold chkQ at hc
  split at hc
  · rename_i x y ho
    exact good_q h hd ⟨a.eval y, by simp [execOp, ho], by obtain rfl := Option.some.inj he; exact opd hc⟩
  · rename_i x y ho
    exact good_q h hd ⟨a.eval y, by simp [execOp, ho], by obtain rfl := Option.some.inj he; exact opd hc⟩
  · rename_i op x y op' t x' y' yt ho
    simp only [Bool.and_eq_true, decide_eq_true_eq, Bool.not_eq_true'] at hc
    obtain ⟨⟨⟨rfl, h2⟩, h3⟩, h4⟩ := hc
    exact good_q h hd (q_bin ho h2 (opd h3) (opd h4) he)
  · rename_i op x y op' t x' y' yt ho
    simp only [Bool.and_eq_true, decide_eq_true_eq] at hc
    obtain ⟨⟨⟨rfl, h2⟩, h3⟩, h4⟩ := hc
    exact good_q h hd (q_shift ho h2 (opd h3) (opd h4) he)
  · rename_i neg x y op' t x' y' yt ho
    simp only [Bool.and_eq_true] at hc
    obtain ⟨⟨⟨h1, h2⟩, h3⟩, h4⟩ := hc
    exact good_q h hd (q_eq ho h1 h2 (opd h3) (opd h4) he)
  · rename_i op x op' t x' ho
    simp only [Bool.and_eq_true, decide_eq_true_eq] at hc
    obtain ⟨rfl, h2⟩ := hc
    exact good_q h hd (q_un ho (opd h2) he)
  · rename_i k x src dst x' ho
    simp only [Bool.and_eq_true] at hc
    obtain ⟨h1, h2⟩ := hc
    split at h1
    · rename_i ds k' hs1 hs2
      have h1 : k = k' := by simpa using h1
      subst h1
      exact good_q h hd (q_conv ho hs1 hs2 (opd h2) he)
    · cases h1
  · rename_i x i x' i' ho
    simp only [Bool.and_eq_true, decide_eq_true_eq] at hc
    obtain ⟨rfl, h2⟩ := hc
    exact good_q h hd (q_ext ho (opd h2) he)
  · rename_i n ag x t x' ho
    simp only [Bool.and_eq_true, decide_eq_true_eq, Bool.or_eq_true] at hc
    obtain ⟨⟨⟨h1, h2⟩, h3⟩, h4⟩ := hc
    exact good_q h hd (q_load ho h1 h2 h4 hH (opd h3) he)
  · exact absurd rfl (hnf _ _)
  · rename_i esz x i t x' i' ho
    simp only [Bool.and_eq_true] at hc
    obtain ⟨⟨h1, h2⟩, h3⟩ := hc
    split at h1
    · rename_i e hu
      exact good_q h hd (q_iaddr ho hu (by simpa using h1) hnd (opd h2) (opd h3) he)
    · cases h1
  · rename_i esz len x i t x' i' ho
    simp only [Bool.and_eq_true] at hc
    obtain ⟨⟨h1, h2⟩, h3⟩ := hc
    split at h1
    · rename_i n e hu
      simp only [Bool.and_eq_true, decide_eq_true_eq] at h1
      obtain ⟨h1, rfl⟩ := h1
      exact good_q h hd (q_iaddrA ho hu h1 hnd (opd h2) (opd h3) he)
    · cases h1
  · rename_i x i t x' i' ho
    simp only [Bool.and_eq_true] at hc
    obtain ⟨⟨h1, h2⟩, h3⟩ := hc
    split at h1
    · rename_i hu
      exact good_q h hd (q_istr ho hu (opd h2) (opd h3) he)
    · cases h1
  · rename_i z ps t ps' ho
    simp only [evQ] at he
    cases hf : fillP env z ps with
    | none => rw [hf] at he; cases he
    | some r =>
      rw [hf] at he
      obtain rfl := Option.some.inj he
      split at hc
      · rename_i fields hu
        simp only [Bool.and_eq_true] at hc
        exact good_q h hd (q_build ho h.env (.inl ⟨fields, hu, hc.1.2, hc.2⟩) hc.1.1 hf)
      · rename_i n e hu
        simp only [Bool.and_eq_true] at hc
        obtain ⟨h1, h2⟩ := hc
        split at h2
        · rename_i sz hz
          exact good_q h hd (q_build ho h.env (.inr ⟨n, e, sz, hu, hz, h2⟩) h1 hf)
        · cases h2
      · cases hc
  · rename_i esz x lo hi t x' lo' hi' mx ho
    simp only [Bool.and_eq_true] at hc
    obtain ⟨⟨⟨⟨h1, h2⟩, h3⟩, h4⟩, h5⟩ := hc
    have : mx = none := by simpa using h5
    subst this
    split at h1
    · rename_i e hu
      exact good_q h hd (q_slice ho hu (by simpa using h1) hnd h.env h2 h3 h4 he)
    · cases h1
  · rename_i x lo hi t x' lo' hi' mx ho
    simp only [Bool.and_eq_true] at hc
    obtain ⟨⟨⟨⟨h1, h2⟩, h3⟩, h4⟩, h5⟩ := hc
    have : mx = none := by simpa using h5
    subst this
    split at h1
    · rename_i hu
      exact good_q h hd (q_sliceS ho hu h.env h2 h3 h4 he)
    · cases h1
  · rename_i x cl ho
    split at hc
    · rename_i y t hcal ha ht
      simp only [Bool.and_eq_true] at hc
      obtain ⟨h1, h2⟩ := hc
      split at h2
      · rename_i e hu
        exact good_q h hd (q_len ho hcal ha ht hu hnd (opd h1) he)
      · cases h2
    · cases hc
  · rename_i x cl ho
    split at hc
    · rename_i y t hcal ha ht
      simp only [Bool.and_eq_true] at hc
      obtain ⟨h1, h2⟩ := hc
      split at h2
      · rename_i hu
        exact good_q h hd (q_lenS ho hcal ha ht hu (opd h1) he)
      · cases h2
    · cases hc
  · rename_i mx xs cl ho
    split at hc
    · rename_i hcal
      simp only [Bool.and_eq_true] at hc
      obtain ⟨rfl, h2⟩ := hc
      cases xs with
      | nil => cases he
      | cons x r => exact good_q h hd (q_max (mx := true) (xs := x :: r) ho hcal (opds_rel h.env h2) he)
    · rename_i hcal
      simp only [Bool.and_eq_true, Bool.not_eq_true'] at hc
      obtain ⟨rfl, h2⟩ := hc
      cases xs with
      | nil => cases he
      | cons x r => exact good_q h hd (q_max (mx := false) (xs := x :: r) ho hcal (opds_rel h.env h2) he)
    · cases hc
  · rename_i f caps fn first cs ho
    split at hc
    · rename_i g
      simp only [Bool.and_eq_true, decide_eq_true_eq] at hc
      obtain ⟨⟨rfl, h2⟩, h3⟩ := hc
      obtain rfl := Option.some.inj he
      exact good_q h hd (q_mkfn ho h2 (opds_rel h.env h3))
    · cases hc
  · cases hc

theorem bytes_cells {imm : Nat → Prop} : ∀ {xs : Rows} {ns : List Int} {vs : List Value}, bytesOf xs = some ns → ImmR w imm xs vs → ns.length = xs.length ∧ vs.take ns.length = ns.map (Value.int .u8)
  | [], ns, vs, h, _ => by
    obtain rfl := Option.some.inj h
    simp
  | r :: xs, ns, vs, h, hr => by
    unfold bytesOf at h
    split at h
    · rename_i e; cases e
    · rename_i n r' e
      obtain ⟨rfl, rfl⟩ := List.cons.inj e
      obtain ⟨ms, hms, rfl⟩ := Option.map_eq_some_iff.1 h
      simp only [ImmR, ImmC, ImmV, List.length_cons, List.length_nil, Nat.zero_add] at hr
      obtain ⟨⟨v, t, rfl, rfl, _⟩, h2⟩ := hr
      obtain ⟨k1, k2⟩ := bytes_cells hms h2
      refine ⟨by simp [k1], ?_⟩
      simp only [List.drop_succ_cons, List.drop_zero] at k2
      simp [k2]
    · cases h
theorem strB_run {src dst e : TypeId} (hs : P.underlying src = some (.slice e)) (he : P.underlying e = some (.int .u8)) (hd : P.underlying dst = some .string) {imm : Nat → Prop} {xs : Rows} {v : Value} (h : ImmV w imm (.list 1 xs) v) {ns : List Int} (hb : bytesOf xs = some ns) :
    (convert src dst v).run P w = .ok (.string (strOf ns)) w := by
  simp only [ImmV] at h
  obtain ⟨ad, cap, rfl, _, h⟩ := h
  rw [run_convert_bytes_string w src dst e ad _ cap hs he hd]
  cases ad with
  | none =>
    rcases h with rfl | ⟨b, off, cs, ty, fr, e, _⟩
    · obtain rfl := Option.some.inj hb
      simp [Conv.bytesToString, strOf, ByteArray.empty, ByteArray.emptyWithCapacity]
    · cases e
  | some a0 =>
    have hl : (loadCells a0 xs.length).run P w = .ok (ns.map (Value.int .u8)).toArray w := by
      rcases h with rfl | ⟨b, off, cs, ty, fr, e, _, hheap, hall, hR⟩
      · obtain rfl := Option.some.inj hb
        exact run_loadCells_list (P := P) w a0 [] (by simp)
      · obtain rfl := Option.some.inj e
        obtain ⟨k1, k2⟩ := bytes_cells hb hR
        have := run_loadCells_list (P := P) w ⟨b, off, none⟩ (ns.map (Value.int .u8)) (fun j u hj => by
          rw [← k2] at hj
          have hj' : ((cs.toList.drop off).take ns.length)[j]? = some u := hj
          rw [List.getElem?_take] at hj'
          split at hj'
          · rw [List.getElem?_drop] at hj'
            rw [Addr.add_lit, cell_of_heap hheap]
            simpa using hj'
          · cases hj')
        rw [List.length_map, k1] at this
        exact this
    rw [run_bytesToString w a0 _ cap ns hl]
    rfl
theorem q_strB (hnd : ∀ n, loc n ≠ .dead) (hH : HRel w (Im c J) loc φ Hq) {x : Opd} {src dst e : TypeId} {x' : Operand} (ho : o.op = .convert src dst x') (hs : P.underlying src = some (.slice e)) (he : P.underlying e = some (.int .u8)) (hd : P.underlying dst = some .string)
    (hx : VRel w (Im c J) loc (x.ev env) (a.eval x')) {lv : LV} (h : evStrB Hq (x.ev env) = some lv) : QOk P o a w (Im c J) loc lv := by
  generalize x.ev env = lx at *
  have fin : ∀ {imm : Nat → Prop} {xs : Rows} {ns : List Int}, ImmV w imm (.list 1 xs) (a.eval x') → bytesOf xs = some ns → lv = .str (strOf ns) → QOk P o a w (Im c J) loc lv := by
    rintro imm xs ns h1 h2 rfl
    refine ⟨.string (strOf ns), ?_, rfl⟩
    simp [execOp, ho, strB_run hs he hd h1 h2]
  unfold evStrB at h
  split at h
  · split at h
    · rename_i e; subst e
      obtain ⟨ns, h2, rfl⟩ := Option.map_eq_some_iff.1 h
      exact fin (by simpa only [VRel] using hx) h2 rfl
    · cases h
  · rename_i es ob off len
    split at h
    · rename_i e; subst e
      obtain ⟨y, hy, h⟩ := Option.bind_eq_some_iff.1 h
      obtain ⟨ns, h2, rfl⟩ := Option.map_eq_some_iff.1 h
      simp only [VRel] at hx
      exact fin (sl_list (imm' := fun _ => True) (o := ob) (fun _ _ => trivial) (fun _ _ => trivial) (hH ob y hy) hx) h2 rfl
    · cases h
  · obtain rfl := Option.some.inj h
    refine fin (imm := fun _ => False) (xs := []) (ns := []) ?_ rfl rfl
    simp only [VRel] at hx
    simp only [ImmV]
    exact ⟨none, 0, hx, by simp, .inl (by trivial)⟩
  · cases h
theorem q_nilck {x : Opd} {x' : Operand} (ho : o.op = .nilCheck x') (hx : VRel w (Im c J) loc (x.ev env) (a.eval x')) (hnd : ∀ n, loc n ≠ .dead) {lv : LV} (h : evNilck (x.ev env) = some lv) : QOk P o a w (Im c J) loc lv := by
  generalize x.ev env = lx at *
  have fin : ∀ ad, a.eval x' = .pointer (some ad) → VRel w (Im c J) loc lv (a.eval x') → QOk P o a w (Im c J) loc lv := by
    intro ad e1 e2
    refine ⟨a.eval x', ?_, e2⟩
    simp [execOp, ho, e1]
  unfold evNilck at h
  split at h
  · rename_i ob e j
    obtain rfl := Option.some.inj h
    have hx0 := hx
    simp only [VRel] at hx
    cases hl : loc ob with
    | unk => rw [hl] at hx; exact hx.elim
    | dead => exact absurd hl (hnd ob)
    | nil => rw [hl] at hx; exact hx.elim
    | «at» b base esz n sz =>
      rw [hl] at hx
      exact fin _ hx hx0
  · obtain rfl := Option.some.inj h
    have hx0 := hx
    simp only [VRel] at hx
    obtain ⟨b, off, cs', ty, fr, hv, _⟩ := hx
    exact fin _ hv hx0
  · cases h
theorem q_iagg {esz len : Nat} {ag : Bool} {x i : Opd} {t e : TypeId} {x' i' : Operand} (ho : o.op = .index t x' i') (hu : P.underlying t = some (.array len e)) (hz : tySize P e = some esz) (ha : tyAgg P e = some ag) (hn : ag = true ∨ esz = 1) (hpos : 0 < esz)
    (hx : VRel w (Im c J) loc (x.ev env) (a.eval x')) (hi : VRel w (Im c J) loc (i.ev env) (a.eval i')) {lv : LV} (h : evIagg esz len ag (x.ev env) (i.ev env) = some lv) : QOk P o a w (Im c J) loc lv := by
  generalize x.ev env = lx at *
  generalize i.ev env = li at *
  unfold evIagg at h
  split at h
  · rename_i cs k n
    split at h
    · rename_i hc
      obtain ⟨h0, h1, h2⟩ := hc
      simp only [VRel] at hx
      obtain ⟨us, hu', h3, h4⟩ := hx
      have hi' : a.eval i' = .int k n := hi
      have hlen := VC_len h4
      unfold tySize at hz
      cases hif : P.info? e with
      | none => rw [hif] at hz; cases hz
      | some inf =>
        rw [hif] at hz
        have hsz : inf.size = esz := by simpa using hz
        have hnat : n.toNat < len := by omega
        have hfit : n.toNat * esz + esz ≤ us.length := by
          have : (n.toNat + 1) * esz ≤ len * esz := Nat.mul_le_mul_right _ hnat
          rw [Nat.add_mul, Nat.one_mul] at this
          omega
        cases ag with
        | true =>
          simp only [if_true] at h
          obtain rfl := Option.some.inj h
          refine ⟨.agg ((us.drop (n.toNat * esz)).take esz).toArray, ?_, ?_⟩
          · have hex : (us.toArray.extract (n.toNat * esz) (n.toNat * esz + esz)) = ((us.drop (n.toNat * esz)).take esz).toArray := by
              apply Array.ext'
              simp [List.drop_take]
            simp [execOp, ho, hu', hi', Instr.index, asIntOf, run_underlying hu, h0, h1, part, tyAgg_run ha, sizeOf, typeInfo, hif, hsz, hex]
          · simp only [VRel]
            exact ⟨_, rfl, fun u hu => h3 u (List.mem_of_mem_drop (List.mem_of_mem_take hu)), VC_take _ (VC_drop _ h4)⟩
        | false =>
          simp only [Bool.false_eq_true, if_false] at h
          obtain ⟨v, hv, hr⟩ := VC_get h4 h
          refine ⟨v, ?_, hr⟩
          simp [execOp, ho, hu', hi', Instr.index, asIntOf, run_underlying hu, h0, h1, part, tyAgg_run ha, sizeOf, typeInfo, hif, hsz, hv]
    · cases h
  · cases h

theorem q_ok (hS : SigOk P S) (h : SRx c J loc φ env H a w) (hsub : ∀ n x, live Hq n = some x → live H n = some x) (hd : ∀ d, o.dst = some d → d < c.nt) {k : QK} (hc : chkQX P k o = true) {lv : LV} (he : evQ S env Hq k = some lv) : Good P c env H o a w lv := by
  have hH : HRel w (Im c J) loc φ Hq := fun n x hn => h.obj n x (hsub n x hn)
  have hnd := h.nodead
  have opd : ∀ {x : Opd} {x' : Operand}, opdOk x x' = true → VRel w (Im c J) loc (x.ev env) (a.eval x') := fun hx => opd_rel h.env hx
  cases k <;> simp only [chkQX] at hc <;> first
    | exact chkQ_ok hS h hsub hd (by intros; simp) hc he
    | (cases hc; done)
    | skip
  case eqa neg ks x y =>
    split at hc
    · rename_i op t x' y' yt ho
      simp only [Bool.and_eq_true, decide_eq_true_eq] at hc
      obtain ⟨⟨⟨⟨⟨h1, h2⟩, h3⟩, h4⟩, h5⟩, h6⟩ := hc
      split at h2
      · rename_i fields hu
        exact good_q h hd (q_eqa ho h1 hu h3 h4 h2 (opd h5) (opd h6) he)
      · cases h2
    · cases hc
  case strB x =>
    split at hc
    · rename_i src dst x' ho
      simp only [Bool.and_eq_true] at hc
      obtain ⟨⟨h1, h2⟩, h3⟩ := hc
      split at h1
      · rename_i e hs
        split at h1
        · rename_i hb
          split at h2
          · rename_i hdd
            exact good_q h hd (q_strB hnd hH ho hs hb hdd (opd h3) he)
          · cases h2
        · cases h1
      · cases h1
    · cases hc
  case nilck x =>
    split at hc
    · rename_i x' ho
      exact good_q h hd (q_nilck ho (opd hc) hnd he)
    · cases hc
  case iagg esz len ag x i =>
    split at hc
    · rename_i t x' i' ho
      simp only [Bool.and_eq_true] at hc
      obtain ⟨⟨h1, h2⟩, h3⟩ := hc
      split at h1
      · rename_i n e hu
        simp only [Bool.and_eq_true, decide_eq_true_eq, Bool.or_eq_true] at h1
        obtain ⟨⟨⟨⟨e1, e2⟩, rfl⟩, e4⟩, e5⟩ := h1
        exact good_q h hd (q_iagg ho hu e1 e2 e4 e5 (opd h2) (opd h3) he)
      · cases h1
    · cases hc
  case faddr off x =>
    split at hc
    · rename_i t x' f ho
      simp only [Bool.and_eq_true] at hc
      obtain ⟨h1, h2⟩ := hc
      split at h1
      · rename_i fields hu
        split at h1
        · rename_i fd hf
          simp only [Bool.and_eq_true, decide_eq_true_eq] at h1
          obtain ⟨h1, h3⟩ := h1
          split at h3
          · rename_i sz hz
            exact good_q h hd (q_faddr ho hu hf h1 hz (by simpa using h3) hnd (opd h2) he)
          · cases h3
        · cases h1
      · cases h1
    · cases hc
  case bslice esz z ps =>
    split at hc
    · rename_i t len ps' ho
      have hs := sliceLitB_ok hc
      simp only [evQ] at he
      cases hf : fillP env z ps with
      | none => rw [hf] at he; cases he
      | some r =>
        rw [hf] at he
        simp only [Option.bind_some] at he
        split at he
        · rename_i hsc
          obtain rfl := Option.some.inj he
          obtain ⟨cells, ty, hrun, k1, k2, k3⟩ := run_bslice (P := P) h.env ho hs hf
          have hold : ∀ k, k < w.heap.size → (w.alloc (.cells cells ty)).heap[k]? = w.heap[k]? := fun k hk => alloc_old w _ hk
          have h1 := (h.pushed (w' := w.alloc (.cells cells ty)) rfl rfl rfl (by simp) hold).freeze (fun b => b = w.heap.size) (by
            rintro b rfl
            exact ⟨h.size, by simp, fun m y hm hk => Nat.lt_irrefl _ (h.rng m y hm _ hk).2.1⟩)
          refine good_val hrun h1 ?_ hd
          have hlen : r.length / esz = len := by rw [k3, Nat.mul_div_cancel _ hsc.2]
          rw [hlen]
          simp only [VRel, ImmV, chop_len]
          refine ⟨_, _, rfl, Nat.le_refl _, ?_⟩
          by_cases h0 : len = 0
          · left; subst h0; rfl
          · right
            refine ⟨w.heap.size, 0, cells, ty, (0, 0), rfl, .inr (.inr rfl), alloc_new w _, chop_all k3, ?_⟩
            rw [List.drop_zero]
            have hown : OwnC w (Im c J) loc r cells.toList [] := VC_Own k1 k2
            have hR := chop_rows k3 hown
            exact Own_ImmR _ _ (Im c J) (fun b hb => hb.imp id .inl) _ [] loc (fun _ hb => by cases hb) (OwnR_mono _ _ _ (fun _ k => k) (fun k hk => hold k (h.imm_lt hk)) _ _ _ (fun _ hb => by cases hb) hR)
        · cases he
    · cases hc
  case call f args =>
    split at hc
    · rename_i cl ho
      simp only [Bool.and_eq_true] at hc
      obtain ⟨h1, h2⟩ := hc
      split at h1
      · rename_i g hcal
        have h1 : f = g := by simpa using h1
        subst h1
        obtain ⟨hok, hcalls⟩ := e_qcall hS h (opds_rel h.env h2) hsub he
        refine good_call (caps := []) hd ho hcal rfl hok ?_
        rw [List.append_nil]
        refine hcalls.mono ?_
        rintro e w' ⟨v, rfl, J', _, hs, hv⟩
        exact ⟨v, rfl, J', loc, φ, hs, hv⟩
      · cases h1
    · cases hc
  case callv x args =>
    split at hc
    · rename_i cl ho
      simp only [Bool.and_eq_true] at hc
      obtain ⟨h1, h2⟩ := hc
      split at h1
      · rename_i y hcal
        simp only [evQ] at he
        have hx := opd h1
        split at he
        · rename_i f caps hxe
          rw [hxe] at hx
          simp only [VRel] at hx
          obtain ⟨vs, hv, hvc⟩ := hx
          obtain ⟨hok, hcalls⟩ := e_qcall hS h (VC_app (opds_rel h.env h2) hvc) hsub he
          refine good_call hd ho hcal hv hok (hcalls.mono ?_)
          rintro e w' ⟨v, rfl, J', _, hs, hv⟩
          exact ⟨v, rfl, J', loc, φ, hs, hv⟩
        · cases he
      · cases h1
    · cases hc

theorem e_ok (hS : SigOk P S) (h : SRx c J loc φ env H a w) (hd : ∀ d, o.dst = some d → d < c.nt) {k : EK} (hc : chkE P k o = true) {d : Nat} {r : LV × Heap} (he : evE S env H d k = some r) : Good P c env r.2 o a w r.1 := by
  unfold chkE at hc
  split at hc
  · rename_i z t ho
    exact e_alloc h ho hc hd he
  · rename_i n x t x' ho
    simp only [Bool.and_eq_true, decide_eq_true_eq] at hc
    exact e_box h ho hc.1 hd hc.2 he
  · rename_i n pk x v t x' v' ho
    simp only [Bool.and_eq_true, decide_eq_true_eq] at hc
    exact e_store h ho hc.1.1.1 hc.1.1.2 hc.1.2 hc.2 he
  · rename_i n ag x t x' ho
    simp only [Bool.and_eq_true, decide_eq_true_eq, Bool.or_eq_true] at hc
    exact e_eload h ho hc.1.1.1 hc.1.1.2 hc.1.2 hc.2 hd he
  · rename_i esz z ps t len ps' ho
    exact e_bslice h ho (sliceLitB_ok hc) hd he
  · rename_i z bytes l k t l' k' ho
    simp only [Bool.and_eq_true, decide_eq_true_eq] at hc
    obtain ⟨⟨⟨h1, h2⟩, h3⟩, h4⟩ := hc
    split at h1
    · rename_i e hu
      simp only [Bool.and_eq_true] at h1
      obtain ⟨h5, h6⟩ := h1
      split at h6
      · rename_i inf hi
        exact e_mks h ho hu hi (by simpa using h6) h2 h5 h3 h4 hd he
      · cases h6
    · cases h1
  · rename_i esz bytes mv x y cl ho
    split at hc
    · rename_i x' y' t tx hcal ha ht
      simp only [Bool.and_eq_true] at hc
      obtain ⟨e, inf, z, hT⟩ := appB_ok hc.1.1
      exact e_app h ho hcal ha ht hT hc.1.2 hc.2 hd he
    · cases hc
  · rename_i f args lent cl ho
    simp only [Bool.and_eq_true] at hc
    obtain ⟨h1, h2⟩ := hc
    split at h1
    · rename_i g hcal
      have h1 : f = g := by simpa using h1
      subst h1
      simp only [evE] at he
      obtain ⟨p, hp, he⟩ := Option.bind_eq_some_iff.1 he
      obtain ⟨q, hq, he⟩ := Option.bind_eq_some_iff.1 he
      obtain ⟨hb, hbk, he⟩ := Option.bind_eq_some_iff.1 he
      split at he
      · rename_i hfr
        obtain rfl := Option.some.inj he
        obtain ⟨hok, hcalls⟩ := e_call hS h (opds_rel h.env h2) hp hq hbk hfr.1 hfr.2.1 hfr.2.2
        refine good_call (caps := []) hd ho hcal rfl hok ?_
        rw [List.append_nil]
        exact hcalls
      · cases he
    · cases h1
  · cases hc

theorem k_ok (hS : SigOk P S) (h : SRx c J loc φ env H a w) (hsub : ∀ n x, live Hq n = some x → live H n = some x) (hd : ∀ d, o.dst = some d → d < c.nt) {k : FK} (hc : chkK P k o = true) {d : Nat} {r : LV × Heap} (he : evF S env Hq H d k = some r) : Good P c env r.2 o a w r.1 := by
  cases k with
  | q k =>
    simp only [evF] at he
    obtain ⟨v, hv, he⟩ := Option.bind_eq_some_iff.1 he
    obtain rfl := Option.some.inj he
    exact q_ok hS h hsub hd hc hv
  | e k => exact e_ok hS h hd hc he
  | pick x y z =>
    simp only [chkK] at hc
    split at hc
    · rename_i x' y' z' ho
      simp only [Bool.and_eq_true] at hc
      simp only [evF] at he
      obtain ⟨p, hp, he⟩ := Option.bind_eq_some_iff.1 he
      obtain rfl := Option.some.inj he
      have hx := opd_rel h.env hc.1.1
      generalize x.ev env = lx at hx hp
      have hb : lx = .bool p := by
        cases lx <;> simp [asB] at hp
        rw [hp]
      subst hb
      have hv : a.eval x' = .bool p := hx
      have hrun : (execOp a.eval o).run P w = .ok (.value (if p then a.eval y' else a.eval z')) w := by
        simp [execOp, ho, hv, asBool]
      refine good_val hrun h ?_ hd
      cases p
      · simpa using opd_rel h.env hc.2
      · simpa using opd_rel h.env hc.1.2
    · cases hc
end
end Go.Lev
