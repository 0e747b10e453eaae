/- The operations that only compute: what the machine's do is what the logical ones say. -/
import Derived.Test.YtahjhlnhkoifhaaGreatZB
import Derived.Laws.StructEq
set_option linter.unusedVariables false
set_option linter.unusedSimpArgs false
namespace Go.Lev

def cvOk : LV → Value → Bool
  | .int k n, .int k' n' => decide (k = k') && decide (n = n')
  | .bool b, .bool b' => b == b'
  | .str s, .string s' => decide (s.data.toList = s'.data.toList)
  | .nil _, .slice none 0 0 => true
  | .undef, _ => true
  | _, _ => false
def opdOk : Opd → Operand → Bool
  | .t s, .tmp s' => decide (s = s')
  | .c v, .const u => cvOk v u
  | .c (.fn f []), .func g => decide (f = g)
  | _, _ => false
def optOk : Option Opd → Option Operand → Bool
  | none, none => true
  | some x, some y => opdOk x y
  | _, _ => false
def opdsOk : List Opd → List Operand → Bool
  | [], [] => true
  | x :: xs, y :: ys => opdOk x y && opdsOk xs ys
  | _, _ => false
/-- A zero value's cells. -/
def zOk : List LV → List Value → Bool
  | [], [] => true
  | c :: cs, v :: vs => cvOk c v && v.oneCell' && zOk cs vs
  | _, _ => false

def tySize (P : Program) (t : TypeId) : Option Nat := (P.info? t).map (·.size)
def tyAgg (P : Program) (t : TypeId) : Option Bool :=
  match P.underlying t with
  | some (.struct _) => some true
  | some (.array _ _) => some true
  | some _ => some false
  | none => none
def tyZero (P : Program) (t : TypeId) (z : List LV) : Bool :=
  match P.info? t with
  | some i => match i.zero with
    | some v => zOk z v.cells.toList && decide (i.size = z.length) && decide (0 < z.length)
    | none => false
  | none => false

/-- Parts of a struct or an array that is built: where they stand, how great they are. -/
def placeOk (P : Program) (place : Nat → Option (Nat × Nat)) : List (Nat × Nat × Opd) → List (Nat × Operand) → Bool
  | [], [] => true
  | (off, n, x) :: ps, (i, y) :: qs => decide (place i = some (off, n)) && opdOk x y && placeOk P place ps qs
  | _, _ => false
def structPlaces (P : Program) (fields : Array Field) (i : Nat) : Option (Nat × Nat) :=
  (fields[i]?).bind fun f => (tySize P f.type).map fun s => (f.offset, s)
/-- A struct's fields of which each is one comparable cell, or a struct of such. -/
def flatCmp (P : Program) : Nat → TypeId → Bool
  | 0, _ => false
  | d + 1, t => match P.underlying t with
    | some .bool => true
    | some (.int _) => true
    | some .string => true
    | _ => false

/-- A struct's fields, each of one cell, from number 'i' on, and comparable. -/
def flatF (P : Program) : Nat → List Nat → List Field → Bool
  | _, [], [] => true
  | i, k :: ks, f :: fs => decide (f.name ≠ "_") && decide (f.offset = i) && (match P.underlying f.type with
    | some (.int _) => decide (k = 0)
    | some .bool => decide (k = 1)
    | some .string => decide (k = 2)
    | _ => false) && flatF P (i + 1) ks fs
  | _, _, _ => false
def isShift : BinOp → Bool
  | .shl => true
  | .shr => true
  | _ => false
def isBoolT (P : Program) (t : TypeId) : Bool :=
  match P.underlying t with
  | some .bool => true
  | _ => false

def chkQ (P : Program) (k : QK) (o : Oper) : Bool :=
  match k, o.op with
  | .mov x, .move y => opdOk x y
  | .mov x, .assign y => opdOk x y
  | .bin op x y, .binOp op' _ x' y' _ => decide (op = op') && !isShift op && opdOk x x' && opdOk y y'
  | .shift op x y, .binOp op' _ x' y' _ => decide (op = op') && isShift op && opdOk x x' && opdOk y y'
  | .eq neg x y, .binOp op' t x' y' _ => (if neg then decide (op' = .neq) else decide (op' = .eql)) && isBoolT P t && opdOk x x' && opdOk y y'
  | .un op x, .unOp op' _ x' => decide (op = op') && opdOk x x'
  | .conv k x, .convert src dst x' => (match P.underlying src, P.underlying dst with
    | some _, some (.int k') => decide (k = k')
    | _, _ => false) && opdOk x x'
  | .ext x i, .extract x' i' => decide (i = i') && opdOk x x'
  | .load n ag x, .load t x' => decide (tySize P t = some n) && decide (tyAgg P t = some ag) && opdOk x x' && (ag || decide (n = 1))
  | .faddr off x, .fieldAddr t x' f => (match P.underlying t with
    | some (.struct fields) => match fields[f]? with
      | some fd => decide (fd.offset = off)
      | none => false
    | _ => false) && opdOk x x'
  | .iaddr esz x i, .indexAddr t x' i' => (match P.underlying t with
    | some (.slice e) => decide (tySize P e = some esz)
    | _ => false) && opdOk x x' && opdOk i i'
  | .iaddrA esz len x i, .indexAddr t x' i' => (match P.underlying t with
    | some (.array n e) => decide (tySize P e = some esz) && decide (n = len)
    | _ => false) && opdOk x x' && opdOk i i'
  | .istr x i, .index t x' i' => (match P.underlying t with
    | some .string => true
    | _ => false) && opdOk x x' && opdOk i i'
  | .build z ps, .build t ps' => (match P.underlying t with
    | some (.struct fields) => tyZero P t z && fields.toList.all (fun f => (tySize P f.type).isSome) && placeOk P (structPlaces P fields) ps ps'.toList
    | some (.array _ e) => tyZero P t z && (match tySize P e with
      | some s => placeOk P (fun i => some (i * s, s)) ps ps'.toList
      | none => false)
    | _ => false)
  | .slice esz x lo hi, .slice t x' lo' hi' mx => (match P.underlying t with
    | some (.slice e) => decide (tySize P e = some esz)
    | _ => false) && opdOk x x' && optOk lo lo' && optOk hi hi' && mx.isNone
  | .sliceS x lo hi, .slice t x' lo' hi' mx => (match P.underlying t with
    | some .string => true
    | _ => false) && opdOk x x' && optOk lo lo' && optOk hi hi' && mx.isNone
  | .len x, .call c => (match c.callee, c.args.toList, c.argTypes.toList with
    | .builtin .len, [y], [t] => opdOk x y && (match P.underlying t with
      | some (.slice _) => true
      | _ => false)
    | _, _, _ => false)
  | .lenS x, .call c => (match c.callee, c.args.toList, c.argTypes.toList with
    | .builtin .len, [y], [t] => opdOk x y && (match P.underlying t with
      | some .string => true
      | _ => false)
    | _, _, _ => false)
  | .max mx xs, .call c => (match c.callee with
    | .builtin .max => mx && opdsOk xs c.args.toList
    | .builtin .min => !mx && opdsOk xs c.args.toList
    | _ => false)
  | .mkfn f caps, .makeFunc fn first cs => (match fn with
    | .func g => decide (f = g) && first.isEmpty && opdsOk caps cs.toList
    | _ => false)
  | _, _ => false

/-! ### Operands -/
def EnvRel (w : World) (imm : Nat → Prop) (loc : Nat → Loc) (env : Env) (a : Act) : Prop :=
  ∀ s v, look env s = some v → VRel w imm loc v (a.tmps.getD s undef)

theorem cv_rel {w : World} {imm : Nat → Prop} {loc : Nat → Loc} {c : LV} {u : Value} (h : cvOk c u = true) : VRel w imm loc c u := by
  cases c with
  | undef => trivial
  | nil =>
    cases u <;> simp only [cvOk] at h <;> try (exact absurd h Bool.false_ne_true)
    rename_i x y z
    cases x <;> cases y <;> cases z <;> simp_all [VRel]
  | int k n => cases u <;> simp_all [cvOk, VRel]
  | bool b => cases u <;> simp_all [cvOk, VRel]
  | str s =>
    cases u <;> simp_all [cvOk, VRel]
    rename_i s'
    cases s; cases s'
    simp_all
  | _ => cases u <;> simp [cvOk] at h

theorem opd_rel {w : World} {imm : Nat → Prop} {loc : Nat → Loc} {env : Env} {a : Act} (he : EnvRel w imm loc env a) {x : Opd} {y : Operand} (h : opdOk x y = true) : VRel w imm loc (x.ev env) (a.eval y) := by
  cases x with
  | t s =>
    cases y <;> simp [opdOk] at h
    subst h
    simp only [Opd.ev, Act.eval]
    cases hl : look env s with
    | none => trivial
    | some v => exact he s v hl
  | c v =>
    cases y with
    | const u => exact cv_rel (show cvOk v u = true by cases v <;> exact h)
    | func g =>
      cases v <;> simp only [opdOk] at h <;> try (exact absurd h Bool.false_ne_true)
      rename_i f caps
      cases caps <;> simp at h
      subst h
      simp only [Opd.ev, VRel, Act.eval]
      exact ⟨[], rfl, rfl⟩
    | tmp s => cases v <;> simp [opdOk] at h
    | global g => cases v <;> simp [opdOk] at h

theorem opds_rel {w : World} {imm : Nat → Prop} {loc : Nat → Loc} {env : Env} {a : Act} (he : EnvRel w imm loc env a) : ∀ {xs : List Opd} {ys : List Operand}, opdsOk xs ys = true → VC w imm loc (xs.map (Opd.ev env)) (ys.map a.eval)
  | [], [], _ => rfl
  | [], _ :: _, h => by simp [opdsOk] at h
  | _ :: _, [], h => by simp [opdsOk] at h
  | x :: xs, y :: ys, h => by
    simp only [opdsOk, Bool.and_eq_true] at h
    simp only [List.map_cons, VC]
    exact ⟨_, _, rfl, opd_rel he h.1, opds_rel he h.2⟩

/-! ### Single operations -/
def QOk (P : Program) (o : Oper) (a : Act) (w : World) (imm : Nat → Prop) (loc : Nat → Loc) (lv : LV) : Prop :=
  ∃ v, (execOp a.eval o).run P w = .ok (.value v) w ∧ VRel w imm loc lv v

section
variable {P : Program} {o : Oper} {a : Act} {w : World} {imm : Nat → Prop} {loc : Nat → Loc} {env : Env}

theorem q_val {x : LV} {v : Value} (h : (execOp a.eval o).run P w = .ok (.value v) w) (hv : VRel w imm loc x v) : QOk P o a w imm loc x := ⟨v, h, hv⟩

theorem int_of {k : IntKind} {n : Int} {v : Value} (h : VRel w imm loc (.int k n) v) : v = .int k n := h

theorem q_bin {op : BinOp} {x y : Opd} {xt yt : TypeId} {x' y' : Operand} (ho : o.op = .binOp op xt x' y' yt) (hs : isShift op = false) (hx : VRel w imm loc (x.ev env) (a.eval x')) (hy : VRel w imm loc (y.ev env) (a.eval y')) {lv : LV} (h : evBin op (x.ev env) (y.ev env) = some lv) : QOk P o a w imm loc lv := by
  generalize x.ev env = lx at *
  generalize y.ev env = ly at *
  unfold evBin at h
  split at h
  · rename_i k m k' n
    split at h
    · rename_i hk
      subst hk
      have e1 := int_of hx
      have e2 := int_of hy
      unfold intBin at h
      split at h <;> try (cases hs; done)
      all_goals first
        | (obtain rfl := Option.some.inj h
           refine ⟨_, ?_, rfl⟩
           simp [execOp, ho, e1, e2, eqGuard, binOp, Op.intArith, Op.intBits, Op.intCmp]
           done)
        | (split at h
           · cases h
           · rename_i h0
             obtain rfl := Option.some.inj h
             refine ⟨_, ?_, rfl⟩
             simp [execOp, ho, e1, e2, eqGuard, binOp, Op.intDiv, h0]
             done)
        | (cases h; done)
        | (obtain rfl := Option.some.inj h
           refine ⟨_, ?_, rfl⟩
           simp only [execOp, ho, e1, e2, eqGuard, binOp, Op.intArith, Op.intBits, Op.intCmp]
           first | rfl | (simp; rfl) | (simp [Bool.eq_iff_iff]; done))
    · cases h
  · rename_i s s'
    have e1 : a.eval x' = .string s := hx
    have e2 : a.eval y' = .string s' := hy
    have eqs : (s.toList == s'.toList) = strEq s s' := by
      rw [ByteArray.toList_eq, ByteArray.toList_eq]
      unfold strEq
      rw [Bool.eq_iff_iff]
      simp
    unfold strBin at h
    split at h
    · split at h
      · rename_i hlen
        obtain rfl := Option.some.inj h
        refine ⟨_, ?_, rfl⟩
        have hm : ¬ (((s.size + s'.size : Nat) : Int) > IntKind.i64.max) := by
          simp [IntKind.max, IntKind.signed, IntKind.bits]
          omega
        simp only [execOp, ho, e1, e2, eqGuard, binOp, Op.stringOp, if_neg hm]
        rfl
      · cases h
    all_goals first
      | (cases h; done)
      | (obtain rfl := Option.some.inj h
         refine ⟨_, ?_, rfl⟩
         simp only [execOp, ho, e1, e2, eqGuard, binOp, Op.stringOp, eqs]
         rfl)
  · cases h

theorem q_shift {op : BinOp} {x y : Opd} {xt yt : TypeId} {x' y' : Operand} (ho : o.op = .binOp op xt x' y' yt) (hs : isShift op = true) (hx : VRel w imm loc (x.ev env) (a.eval x')) (hy : VRel w imm loc (y.ev env) (a.eval y')) {lv : LV} (h : evShift op (x.ev env) (y.ev env) = some lv) : QOk P o a w imm loc lv := by
  generalize x.ev env = lx at *
  generalize y.ev env = ly at *
  unfold evShift at h
  split at h
  · rename_i k m k' n
    have e1 := int_of hx
    have e2 := int_of hy
    unfold shiftBin at h
    split at h
    · cases h
    · rename_i h0
      split at h
      all_goals first
        | (cases h; done)
        | (obtain rfl := Option.some.inj h
           refine ⟨_, ?_, rfl⟩
           simp [execOp, ho, e1, e2, eqGuard, binOp, Op.shift, h0])
  · cases h

theorem isBoolT_spec {t : TypeId} (h : isBoolT P t = true) : P.underlying t = some .bool := by
  unfold isBoolT at h
  split at h
  · assumption
  · cases h
theorem equalIn_bool {t : TypeId} (d : Nat) (hu : P.underlying t = some .bool) (p q : Bool) : (Op.equalIn (d + 1) t (.bool p) (.bool q)).run P w = .ok (p == q) w := by
  simp [Op.equalIn, underlying, hu]
theorem q_eq {neg : Bool} {x y : Opd} {op : BinOp} {xt yt : TypeId} {x' y' : Operand} (ho : o.op = .binOp op xt x' y' yt) (hop : (if neg then decide (op = .neq) else decide (op = .eql)) = true) (ht : isBoolT P xt = true) (hx : VRel w imm loc (x.ev env) (a.eval x')) (hy : VRel w imm loc (y.ev env) (a.eval y')) {lv : LV} (h : evEq neg (x.ev env) (y.ev env) = some lv) : QOk P o a w imm loc lv := by
  generalize x.ev env = lx at *
  generalize y.ev env = ly at *
  unfold evEq at h
  split at h
  · rename_i p q
    have e1 : a.eval x' = .bool p := hx
    have e2 : a.eval y' = .bool q := hy
    have hu := isBoolT_spec ht
    have hE : (Op.equal xt (.bool p) (.bool q)).run P w = .ok (p == q) w := equalIn_bool 9999 hu p q
    obtain rfl := Option.some.inj h
    refine ⟨_, ?_, rfl⟩
    cases neg
    · have : op = .eql := by simpa using hop
      subst this
      simp [execOp, ho, e1, e2, eqGuard, binOp, hE]
    · have : op = .neq := by simpa using hop
      subst this
      simp [execOp, ho, e1, e2, eqGuard, binOp, hE]
  · cases h

theorem eqFields_cells (d : Nat) : ∀ (ks : List Nat) (fs : List Field) (i : Nat) (xs ys : List LV) (us vs : List Value), flatF P i ks fs = true → VC w imm loc xs (us.drop i) → VC w imm loc ys (vs.drop i) → ∀ p, eqCells ks xs ys = some p →
    (Op.eqFields (d + 1) us.toArray vs.toArray fs).run P w = .ok p w
  | [], fs, i, xs, ys, us, vs, hf, hx, hy, p, h => by
    cases fs with
    | cons f fs => simp [flatF] at hf
    | nil =>
      cases xs <;> cases ys <;> simp [eqCells] at h
      subst h
      simp [Op.eqFields]
  | k :: ks, fs, i, xs, ys, us, vs, hf, hx, hy, p, h => by
    cases fs with
    | nil => simp [flatF] at hf
    | cons f fs =>
    cases xs with
    | nil => simp [eqCells] at h
    | cons x xs =>
    cases ys with
    | nil => simp [eqCells] at h
    | cons y ys =>
        simp only [flatF, Bool.and_eq_true, decide_eq_true_eq] at hf
        obtain ⟨⟨⟨hn, hoff⟩, hty⟩, hf⟩ := hf
        simp only [VC] at hx hy
        obtain ⟨u, t, hu, hxu, hxt⟩ := hx
        obtain ⟨v, t', hv, hyv, hyt⟩ := hy
        have hus : us[i]? = some u := by
          have := congrArg (fun l => l[0]?) hu
          simpa using this
        have hvs : vs[i]? = some v := by
          have := congrArg (fun l => l[0]?) hv
          simpa using this
        have ht1 : us.drop (i + 1) = t := by rw [← List.drop_drop, hu]; simp
        have ht2 : vs.drop (i + 1) = t' := by rw [← List.drop_drop, hv]; simp
        simp only [eqCells] at h
        cases hc : eqCell k x y with
        | none => rw [hc] at h; cases h
        | some q =>
          rw [hc] at h
          simp only [Option.bind_some] at h
          cases hr : eqCells ks xs ys with
          | none => rw [hr] at h; cases h
          | some r =>
            rw [hr] at h
            have hp : (q && r) = p := by simpa using h
            have ih := eqFields_cells d ks fs (i + 1) xs ys us vs hf (by rw [ht1]; exact hxt) (by rw [ht2]; exact hyt) r hr
            have hagg : (isAgg f.type).run P w = .ok false w := by
              simp only [isAgg, underlying, Sem.run_bind, run_program, Result.andThen_ok]
              split at hty <;> first | (rename_i hu; rw [hu]; rfl) | cases hty
            have hpart : ∀ (z : List Value) (c : Value), z[i]? = some c → (part f.type z.toArray f.offset).run P w = .ok c w := by
              intro z c hz
              have hz' : z.toArray[f.offset]? = some c := by rw [hoff]; simpa using hz
              simp [part, hagg, hz']
            have heq : (Op.equalIn (d + 1) f.type u v).run P w = .ok q w := by
              unfold eqCell at hc
              split at hc
              · rename_i k a k' b
                split at hc
                · rename_i hk
                  subst hk
                  obtain rfl := Option.some.inj hc
                  have e1 : u = .int k a := hxu
                  have e2 : v = .int k b := hyv
                  subst e1; subst e2
                  split at hty
                  · rename_i k'' hu'
                    rw [run_equalIn_int w d f.type k k'' a b hu']
                    rfl
                  · simp at hty
                  · simp at hty
                  · cases hty
                · cases hc
              · rename_i a b
                obtain rfl := Option.some.inj hc
                have e1 : u = .bool a := hxu
                have e2 : v = .bool b := hyv
                subst e1; subst e2
                split at hty
                · simp at hty
                · rename_i hu'
                  rw [run_equalIn_bool' w d f.type a b hu']
                · simp at hty
                · cases hty
              · rename_i a b
                obtain rfl := Option.some.inj hc
                have e1 : u = .string a := hxu
                have e2 : v = .string b := hyv
                subst e1; subst e2
                split at hty
                · simp at hty
                · simp at hty
                · rename_i hu'
                  rw [run_equalIn_string w d f.type a b hu', ByteArray.toList_eq, ByteArray.toList_eq]
                  congr 1
                  unfold strEq
                  rw [Bool.eq_iff_iff]
                  simp
                · cases hty
              · cases hc
            simp only [Op.eqFields, hn, ne_eq, not_false_iff, if_true, Sem.run_bind, hpart us u hus, hpart vs v hvs, Result.andThen_ok, heq, Sem.run_ite, ih, ← hp]
            cases q <;> simp
theorem q_eqa {neg : Bool} {ks : List Nat} {x y : Opd} {op : BinOp} {xt yt : TypeId} {x' y' : Operand} (ho : o.op = .binOp op xt x' y' yt) (hop : (if neg then decide (op = .neq) else decide (op = .eql)) = true) {fields : Array Field} (hu : P.underlying xt = some (.struct fields)) (hg : P.eqGuardType P.depth xt = false) (hst : P.stoodInHeld xt = false) (hf : flatF P 0 ks fields.toList = true)
    (hx : VRel w imm loc (x.ev env) (a.eval x')) (hy : VRel w imm loc (y.ev env) (a.eval y')) {lv : LV} (h : evEqA neg ks (x.ev env) (y.ev env) = some lv) : QOk P o a w imm loc lv := by
  generalize x.ev env = lx at *
  generalize y.ev env = ly at *
  unfold evEqA at h
  split at h
  · rename_i xs ys
    simp only [VRel] at hx hy
    obtain ⟨us, e1, _, hxs⟩ := hx
    obtain ⟨vs, e2, _, hys⟩ := hy
    cases hc : eqCells ks xs ys with
    | none => rw [hc] at h; cases h
    | some p =>
      rw [hc] at h
      have hfo : P.fieldsOf xt = fields := by simp [Program.fieldsOf, hu]
      have hu' : P.underlying xt = some (.struct (P.fieldsOf xt)) := by rw [hfo]; exact hu
      have hE : (Op.equal xt (.agg us.toArray) (.agg vs.toArray)).run P w = .ok p w := by
        show (Op.equalIn (9999 + 1) xt (.agg us.toArray) (.agg vs.toArray)).run P w = _
        rw [run_equalIn_struct w 9999 xt _ _ hu' hst, hfo]
        exact eqFields_cells 9998 ks fields.toList 0 xs ys us vs hf (by simpa using hxs) (by simpa using hys) p hc
      have hG : ∀ op, (eqGuard op xt x' y' (.agg us.toArray) (.agg vs.toArray)).run P w = .ok () w := fun op => run_eqGuard_agg w op xt x' y' _ _ hg
      obtain rfl := Option.some.inj h
      refine ⟨_, ?_, rfl⟩
      cases neg
      · have : op = .eql := by simpa using hop
        subst this
        simp [execOp, ho, e1, e2, hG, binOp, hE]
      · have : op = .neq := by simpa using hop
        subst this
        simp [execOp, ho, e1, e2, hG, binOp, hE]
  · cases h

theorem q_un {op : UnOp} {x : Opd} {xt : TypeId} {x' : Operand} (ho : o.op = .unOp op xt x') (hx : VRel w imm loc (x.ev env) (a.eval x')) {lv : LV} (h : evUn op (x.ev env) = some lv) : QOk P o a w imm loc lv := by
  generalize x.ev env = lx at *
  unfold evUn at h
  split at h
  · rename_i b
    have e1 : a.eval x' = .bool b := hx
    split at h
    · obtain rfl := Option.some.inj h
      refine ⟨_, ?_, rfl⟩
      simp [execOp, ho, e1, Op.unary]
    · cases h
  · rename_i k n
    have e1 := int_of hx
    split at h
    · obtain rfl := Option.some.inj h
      refine ⟨_, ?_, rfl⟩
      simp [execOp, ho, e1, Op.unary, Op.intArith]
    · cases h
  · cases h

theorem q_conv {k : IntKind} {x : Opd} {s d : TypeId} {x' : Operand} {ds : TypeDesc} (ho : o.op = .convert s d x') (hs : P.underlying s = some ds) (hd : P.underlying d = some (.int k)) (hx : VRel w imm loc (x.ev env) (a.eval x')) {lv : LV} (h : evConv k (x.ev env) = some lv) : QOk P o a w imm loc lv := by
  generalize x.ev env = lx at *
  unfold evConv at h
  split at h
  · rename_i k' n
    have e1 := int_of hx
    obtain rfl := Option.some.inj h
    refine ⟨_, ?_, rfl⟩
    simp [execOp, ho, e1, convert, underlying, hs, hd, Conv.intToInt]
  · cases h

theorem VC_get : ∀ {cs : List LV} {vs : List Value} {i : Nat} {c : LV}, VC w imm loc cs vs → cs[i]? = some c → ∃ v, vs[i]? = some v ∧ VRel w imm loc c v
  | [], _, _, _, _, h => by simp at h
  | c :: cs, vs, 0, c', h, e => by
    simp only [VC] at h
    obtain ⟨v, t, rfl, h1, _⟩ := h
    simp at e
    subst e
    exact ⟨v, by simp, h1⟩
  | c :: cs, vs, i + 1, c', h, e => by
    simp only [VC] at h
    obtain ⟨v, t, rfl, _, h2⟩ := h
    obtain ⟨u, hu, k⟩ := VC_get h2 (by simpa using e)
    exact ⟨u, by simpa using hu, k⟩
theorem VC_len : ∀ {cs : List LV} {vs : List Value}, VC w imm loc cs vs → vs.length = cs.length
  | [], _, h => by rw [show _ = _ from h]; rfl
  | c :: cs, vs, h => by
    simp only [VC] at h
    obtain ⟨v, t, rfl, _, h2⟩ := h
    simp [VC_len h2]

theorem q_ext {x : Opd} {i : Nat} {x' : Operand} (ho : o.op = .extract x' i) (hx : VRel w imm loc (x.ev env) (a.eval x')) {lv : LV} (h : evExt i (x.ev env) = some lv) : QOk P o a w imm loc lv := by
  generalize x.ev env = lx at *
  unfold evExt at h
  split at h
  · rename_i vs
    simp only [VRel] at hx
    obtain ⟨us, hu, hc⟩ := hx
    obtain ⟨v, hv, hr⟩ := VC_get hc h
    refine ⟨v, ?_, hr⟩
    simp [execOp, ho, hu, Instr.extract, hv]
  · cases h

theorem args_one {c : Call} {y : Operand} {t : TypeId} (ha : c.args.toList = [y]) (ht : c.argTypes.toList = [t]) : c.args = #[y] ∧ c.argTypes = #[t] :=
  ⟨by rw [← Array.toArray_toList (xs := c.args), ha], by rw [← Array.toArray_toList (xs := c.argTypes), ht]⟩
theorem q_len {x : Opd} {c : Call} {y : Operand} {t e : TypeId} (ho : o.op = .call c) (hc : c.callee = .builtin .len) (ha : c.args.toList = [y]) (ht : c.argTypes.toList = [t]) (hu : P.underlying t = some (.slice e)) (hnd : ∀ n, loc n ≠ .dead) (hx : VRel w imm loc (x.ev env) (a.eval y)) {lv : LV} (h : evLen (x.ev env) = some lv) : QOk P o a w imm loc lv := by
  generalize x.ev env = lx at *
  obtain ⟨ea, et⟩ := args_one ha ht
  have run : ∀ ad n cap, a.eval y = .slice ad n cap → (execOp a.eval o).run P w = .ok (.value (.int .i64 n)) w := by
    intro ad n cap hv
    simp [execOp, ho, resolve, hc, ea, et, invoke, builtin, Builtin.len_, underlying, hu, hv, goInt]
  unfold evLen at h
  split at h
  · rename_i xs
    simp only [VRel, ImmV] at hx
    obtain ⟨ad, cap, hv, _⟩ := hx
    obtain rfl := Option.some.inj h
    exact ⟨_, run _ _ _ hv, rfl⟩
  · rename_i o' off len
    obtain rfl := Option.some.inj h
    simp only [VRel] at hx
    have hd := hnd o'
    generalize loc o' = l at hx hd
    cases l with
    | unk => exact hx.elim
    | dead => exact absurd rfl hd
    | nil =>
      obtain ⟨_, h0, _, hv⟩ := hx
      exact ⟨_, run _ _ _ hv, by rw [h0]; rfl⟩
    | «at» b base esz n sz =>
      obtain ⟨_, _, ad, cap, hv, _⟩ := hx
      exact ⟨_, run _ _ _ hv, rfl⟩
  · obtain rfl := Option.some.inj h
    exact ⟨_, run none 0 0 hx, rfl⟩
  · cases h
theorem q_lenS {x : Opd} {c : Call} {y : Operand} {t : TypeId} (ho : o.op = .call c) (hc : c.callee = .builtin .len) (ha : c.args.toList = [y]) (ht : c.argTypes.toList = [t]) (hu : P.underlying t = some .string) (hx : VRel w imm loc (x.ev env) (a.eval y)) {lv : LV} (h : evLenS (x.ev env) = some lv) : QOk P o a w imm loc lv := by
  generalize x.ev env = lx at *
  obtain ⟨ea, et⟩ := args_one ha ht
  unfold evLenS at h
  split at h
  · rename_i s
    have e1 : a.eval y = .string s := hx
    obtain rfl := Option.some.inj h
    refine ⟨_, ?_, rfl⟩
    simp [execOp, ho, resolve, hc, ea, et, invoke, builtin, Builtin.len_, underlying, hu, e1, goInt]
  · cases h

theorem VC_of_max : ∀ {xs : List LV} {vs : List Value} {x : LV} {v : Value} {mx : Bool} {lv : LV}, VRel w imm loc x v → VC w imm loc xs vs → evMaxL mx x xs = some lv →
    ∃ u, ((vs.foldlM (if mx then Builtin.max2 else Builtin.min2) v : Sem Value)).run P w = .ok u w ∧ VRel w imm loc lv u
  | [], vs, x, v, mx, lv, hx, hc, h => by
    obtain rfl : vs = [] := hc
    obtain rfl := Option.some.inj h
    exact ⟨v, by simp, hx⟩
  | y :: ys, vs, x, v, mx, lv, hx, hc, h => by
    simp only [VC] at hc
    obtain ⟨u, t, rfl, h1, h2⟩ := hc
    simp only [evMaxL] at h
    cases hm : evMax mx x y with
    | none => rw [hm] at h; cases h
    | some z =>
      rw [hm] at h
      unfold evMax at hm
      split at hm
      · rename_i k p k' q
        obtain rfl := Option.some.inj hm
        have e1 : v = .int k p := hx
        have e2 : u = .int k' q := h1
        subst e1; subst e2
        have hz : ((if mx then Builtin.max2 else Builtin.min2) (.int k p) (.int k' q)).run P w = .ok (.int k (if mx then (if p < q then q else p) else (if q < p then q else p))) w := by
          cases mx <;> simp [Builtin.max2, Builtin.min2]
        obtain ⟨u', hu, hr⟩ := VC_of_max (x := .int k (if mx then (if p < q then q else p) else (if q < p then q else p))) (v := .int k (if mx then (if p < q then q else p) else (if q < p then q else p))) rfl h2 (by simpa using h)
        exact ⟨u', by simp only [List.foldlM_cons, Sem.run_bind, hz, Result.andThen_ok, hu], hr⟩
      · cases hm
theorem q_max {mx : Bool} {xs : List Opd} {c : Call} (ho : o.op = .call c) (hc : c.callee = .builtin (if mx then .max else .min)) (hx : VC w imm loc (xs.map (Opd.ev env)) (c.args.toList.map a.eval)) {lv : LV}
    (h : (match xs with | [] => none | x :: r => evMaxL mx (x.ev env) (r.map (Opd.ev env))) = some lv) : QOk P o a w imm loc lv := by
  cases xs with
  | nil => cases h
  | cons x r =>
    simp only [List.map_cons, VC] at hx
    obtain ⟨v, t, hvt, h1, h2⟩ := hx
    obtain ⟨u, hu, hr⟩ := VC_of_max (P := P) h1 h2 h
    refine ⟨u, ?_, hr⟩
    have ha : (c.args.map a.eval).toList = v :: t := by simp [hvt]
    cases mx
    · simp only [Bool.false_eq_true, if_false] at hc hu
      simp [execOp, ho, resolve, hc, invoke, builtin, Builtin.min_, hvt, hu]
    · simp only [if_true] at hc hu
      simp [execOp, ho, resolve, hc, invoke, builtin, Builtin.max_, hvt, hu]

theorem q_mkfn {f : Nat} {caps : List Opd} {first cs : Array Operand} (ho : o.op = .makeFunc (.func f) first cs) (hf : first.isEmpty = true) (hx : VC w imm loc (caps.map (Opd.ev env)) (cs.toList.map a.eval)) : QOk P o a w imm loc (.fn f (caps.map (Opd.ev env))) := by
  have : first = #[] := by simpa using hf
  subst this
  refine ⟨.func (.func f) #[] (cs.toList.map a.eval).toArray, by simp [execOp, ho, Instr.makeFunc]; rw [← Array.toList_map, Array.toArray_toList], ?_⟩
  simp only [VRel]
  exact ⟨_, rfl, hx⟩

/-! ### Addresses and loads -/
def HRel (w : World) (imm : Nat → Prop) (loc : Nat → Loc) (φ : Nat → List Nat) (H : Heap) : Prop := ∀ n x, live H n = some x → ObjRel w imm loc x (loc n) (φ n)

theorem run_sureAddr (b off : Nat) : (Instr.sureAddr (.pointer (some ⟨b, off, none⟩))).run P w = .ok ⟨b, off, none⟩ w := rfl
theorem run_fieldAt {t : TypeId} {f : Nat} {fields : Array Field} {fd : Field} {sz : Nat} (hu : P.underlying t = some (.struct fields)) (hf : fields[f]? = some fd) (hz : tySize P fd.type = some sz) (h0 : 0 < sz) (b off : Nat) :
    (Instr.fieldAt t (.pointer (some ⟨b, off, none⟩)) f).run P w = .ok (.pointer (some ⟨b, off + fd.offset, none⟩)) w := by
  unfold tySize at hz
  cases hi : P.info? fd.type with
  | none => rw [hi] at hz; cases hz
  | some i =>
    rw [hi] at hz
    have : i.size = sz := by simpa using hz
    have h0' : ¬ (i.size = 0) := by omega
    simp [Instr.fieldAt, underlying, hu, hf, run_sureAddr, fieldPlace, sizeOf, typeInfo, hi, h0', Addr.add_lit]
theorem q_faddr {off : Nat} {x : Opd} {t : TypeId} {f : Nat} {x' : Operand} {fields : Array Field} {fd : Field} {sz : Nat} (ho : o.op = .fieldAddr t x' f) (hu : P.underlying t = some (.struct fields)) (hf : fields[f]? = some fd) (hoff : fd.offset = off) (hz : tySize P fd.type = some sz) (h0 : 0 < sz)
    (hnd : ∀ n, loc n ≠ .dead) (hx : VRel w imm loc (x.ev env) (a.eval x')) {lv : LV} (h : evFaddr off (x.ev env) = some lv) : QOk P o a w imm loc lv := by
  generalize x.ev env = lx at *
  subst hoff
  unfold evFaddr at h
  split at h
  · rename_i n e j
    obtain rfl := Option.some.inj h
    simp only [VRel] at hx
    have hd := hnd n
    generalize hl : loc n = l at hx hd
    cases l with
    | unk => exact hx.elim
    | dead => exact absurd rfl hd
    | nil => exact hx.elim
    | «at» b base esz m sz' =>
      have hv : a.eval x' = _ := hx
      refine ⟨_, by simp only [execOp, ho, hv, Sem.run_bind, run_fieldAt hu hf hz h0, Result.andThen_ok, Sem.run_pure]; rfl, ?_⟩
      simp only [VRel, hl, PtrRel, Nat.add_assoc]
  · rename_i cs
    split at h
    · rename_i hlt
      obtain rfl := Option.some.inj h
      simp only [VRel] at hx
      obtain ⟨b, k, cs', ty, fr, hv, hi, hb, hc⟩ := hx
      refine ⟨_, by simp only [execOp, ho, hv, Sem.run_bind, run_fieldAt hu hf hz h0, Result.andThen_ok, Sem.run_pure]; rfl, ?_⟩
      simp only [VRel]
      refine ⟨b, _, cs', ty, fr, rfl, hi, hb, ?_⟩
      have := ImmC_drop fd.offset hc
      rwa [List.drop_drop] at this
    · cases h
  · cases h

theorem run_indexAt {t e : TypeId} {sz : Nat} (hu : P.underlying t = some (.slice e)) (hz : tySize P e = some sz) (b off len cap : Nat) (k : IntKind) (i : Int) (h0 : 0 ≤ i) (h1 : i < len) :
    (Instr.indexAt t (.slice (some ⟨b, off, none⟩) len cap) (.int k i)).run P w = .ok (.pointer (some ⟨b, off + i.toNat * sz, none⟩)) w := by
  unfold tySize at hz
  cases hi : P.info? e with
  | none => rw [hi] at hz; cases hz
  | some inf =>
    rw [hi] at hz
    have : inf.size = sz := by simpa using hz
    simp [Instr.indexAt, asIntOf, underlying, hu, h0, h1, sizeOf, typeInfo, hi, Addr.add_lit, this]
theorem q_iaddr {esz : Nat} {x i : Opd} {t e : TypeId} {x' i' : Operand} (ho : o.op = .indexAddr t x' i') (hu : P.underlying t = some (.slice e)) (hz : tySize P e = some esz)
    (hnd : ∀ n, loc n ≠ .dead) (hx : VRel w imm loc (x.ev env) (a.eval x')) (hi : VRel w imm loc (i.ev env) (a.eval i')) {lv : LV} (h : evIaddr esz (x.ev env) (i.ev env) = some lv) : QOk P o a w imm loc lv := by
  generalize x.ev env = lx at *
  generalize i.ev env = li at *
  unfold evIaddr at h
  split at h
  · rename_i es xs k n
    have e2 := int_of hi
    split at h
    · rename_i hes
      subst hes
      unfold idx at h
      split at h
      · rename_i h0
        cases hr : xs[n.toNat]? with
        | none => rw [hr] at h; cases h
        | some r =>
          rw [hr] at h
          obtain rfl := Option.some.inj h
          simp only [VRel, ImmV] at hx
          obtain ⟨ad, cap, hv, hlc, hx⟩ := hx
          have hlt : n.toNat < xs.length := (List.getElem?_eq_some_iff.1 hr).1
          rcases hx with rfl | ⟨b, off, cs, ty, fr, rfl, him, hb, hall, hR⟩
          · simp at hlt
          · refine ⟨_, by simp only [execOp, ho, hv, e2, Sem.run_bind, run_indexAt hu hz b off xs.length cap k n h0 (by omega), Result.andThen_ok, Sem.run_pure]; rfl, ?_⟩
            simp only [VRel]
            refine ⟨b, _, cs, ty, fr, rfl, him, hb, ?_⟩
            have := ImmR_get hall hR hr
            rwa [List.drop_drop] at this
      · cases h
    · cases h
  · rename_i es n off len k m
    have e2 := int_of hi
    split at h
    · rename_i h01
      obtain ⟨rfl, h0, h1⟩ := h01
      obtain rfl := Option.some.inj h
      simp only [VRel] at hx
      generalize hloc : loc n = l at hx
      cases l with
      | unk => exact hx.elim
      | dead => exact absurd hloc (hnd n)
      | nil => obtain ⟨_, h0, _⟩ := hx; omega
      | «at» b base esz' cnt sz =>
        obtain ⟨rfl, hle, ad, cap, hv, hx⟩ := hx
        rcases hx with ⟨h0, _⟩ | ⟨rfl, hsz, hlc⟩
        · omega
        · refine ⟨_, by simp only [execOp, ho, hv, e2, Sem.run_bind, run_indexAt hu hz b _ _ cap k m h0 h1, Result.andThen_ok, Sem.run_pure]; rfl, ?_⟩
          simp only [VRel, hloc, PtrRel, Nat.add_zero, Nat.add_mul, Nat.add_assoc]
    · cases h
  · cases h

theorem run_indexAtA {t e : TypeId} {sz n : Nat} (hu : P.underlying t = some (.array n e)) (hz : tySize P e = some sz) (b off : Nat) (k : IntKind) (i : Int) (h0 : 0 ≤ i) (h1 : i < n) :
    (Instr.indexAt t (.pointer (some ⟨b, off, none⟩)) (.int k i)).run P w = .ok (.pointer (some ⟨b, off + i.toNat * sz, none⟩)) w := by
  unfold tySize at hz
  cases hi : P.info? e with
  | none => rw [hi] at hz; cases hz
  | some inf =>
    rw [hi] at hz
    have : inf.size = sz := by simpa using hz
    simp [Instr.indexAt, asIntOf, underlying, hu, h0, h1, sizeOf, typeInfo, hi, Addr.add_lit, run_sureAddr, this]
theorem q_iaddrA {esz len : Nat} {x i : Opd} {t e : TypeId} {x' i' : Operand} (ho : o.op = .indexAddr t x' i') (hu : P.underlying t = some (.array len e)) (hz : tySize P e = some esz)
    (hnd : ∀ n, loc n ≠ .dead) (hx : VRel w imm loc (x.ev env) (a.eval x')) (hi : VRel w imm loc (i.ev env) (a.eval i')) {lv : LV} (h : evIaddrA esz len (x.ev env) (i.ev env) = some lv) : QOk P o a w imm loc lv := by
  generalize x.ev env = lx at *
  generalize i.ev env = li at *
  unfold evIaddrA at h
  split at h
  · rename_i n ee j k m
    have e2 := int_of hi
    split at h
    · rename_i h01
      obtain rfl := Option.some.inj h
      simp only [VRel] at hx
      have hd := hnd n
      generalize hl : loc n = l at hx hd
      cases l with
      | unk => exact hx.elim
      | dead => exact absurd rfl hd
      | nil => exact hx.elim
      | «at» b base esz' cnt sz' =>
        have hv : a.eval x' = _ := hx
        refine ⟨_, by simp only [execOp, ho, hv, e2, Sem.run_bind, run_indexAtA hu hz b _ k m h01.1 h01.2, Result.andThen_ok, Sem.run_pure]; rfl, ?_⟩
        simp only [VRel, hl, PtrRel, Nat.add_assoc]
    · cases h
  · rename_i cs k m
    have e2 := int_of hi
    split at h
    · rename_i h01
      obtain rfl := Option.some.inj h
      simp only [VRel] at hx
      obtain ⟨b, off, cs', ty, fr, hv, him, hb, hc⟩ := hx
      refine ⟨_, by simp only [execOp, ho, hv, e2, Sem.run_bind, run_indexAtA hu hz b _ k m h01.1 h01.2.1, Result.andThen_ok, Sem.run_pure]; rfl, ?_⟩
      simp only [VRel]
      refine ⟨b, _, cs', ty, fr, rfl, him, hb, ?_⟩
      have := ImmC_drop (m.toNat * esz) hc
      rwa [List.drop_drop] at this
    · cases h
  · cases h

theorem q_istr {x i : Opd} {t : TypeId} {x' i' : Operand} (ho : o.op = .index t x' i') (hu : P.underlying t = some .string)
    (hx : VRel w imm loc (x.ev env) (a.eval x')) (hi : VRel w imm loc (i.ev env) (a.eval i')) {lv : LV} (h : evIstr (x.ev env) (i.ev env) = some lv) : QOk P o a w imm loc lv := by
  generalize x.ev env = lx at *
  generalize i.ev env = li at *
  unfold evIstr at h
  split at h
  · rename_i s k n
    have e1 : a.eval x' = .string s := hx
    have e2 := int_of hi
    split at h
    · rename_i h0
      cases hb : s.data[n.toNat]? with
      | none => rw [hb] at h; cases h
      | some b =>
        rw [hb] at h
        obtain rfl := Option.some.inj h
        refine ⟨_, ?_, rfl⟩
        have hs : s[n.toNat]? = some b := by
          have hlt := (Array.getElem?_eq_some_iff.1 hb).1
          have : n.toNat < s.size := hlt
          simp only [getElem?_def, this, dif_pos]
          exact congrArg some (Array.getElem?_eq_some_iff.1 hb).2
        simp [execOp, ho, e1, e2, Instr.index, asIntOf, underlying, hu, h0, hs]
    · cases h
  · cases h

/-! Loads -/
theorem cell_of_heap {b k : Nat} {cs : Array Value} {ty : TypeId} {fr : Nat × Nat} (hb : w.heap[b]? = some (.cells cs ty fr)) : w.cell? ⟨b, k, none⟩ = cs[k]? := by
  simp [World.cell?, hb]
theorem tyAgg_run {t : TypeId} {ag : Bool} (h : tyAgg P t = some ag) : (isAgg t).run P w = .ok ag w := by
  unfold tyAgg at h
  simp only [isAgg, underlying, Sem.run_bind, run_program, Result.andThen_ok]
  split at h
  · rename_i f hu; rw [hu]; obtain rfl := Option.some.inj h; rfl
  · rename_i n e hu; rw [hu]; obtain rfl := Option.some.inj h; rfl
  · rename_i d hs ha hu
    obtain rfl := Option.some.inj h
    rw [hu]
    cases d <;> first | rfl | exact absurd rfl (hs _) | exact absurd rfl (ha _ _)
  · cases h
theorem run_loadVar {t : TypeId} {n : Nat} {ag : Bool} (hz : tySize P t = some n) (ha : tyAgg P t = some ag) (hn : ag = true ∨ n = 1) (b off : Nat) (cs : Array Value) (ty : TypeId) (fr : Nat × Nat) (hb : w.heap[b]? = some (.cells cs ty fr)) (us : List Value) (hus : (cs.toList.drop off).take n = us) (hlen : us.length = n) :
    (loadVar t ⟨b, off, none⟩).run P w = .ok (if ag then .agg us.toArray else us.getD 0 undef) w := by
  have hread : ∀ j v, us[j]? = some v → w.cell? (Addr.add ⟨b, off, none⟩ j) = some v := by
    intro j v hj
    rw [Addr.add_lit, cell_of_heap hb]
    rw [← hus, List.getElem?_take] at hj
    split at hj
    · rw [List.getElem?_drop] at hj
      simpa using hj
    · cases hj
  unfold tySize at hz
  cases hi : P.info? t with
  | none => rw [hi] at hz; cases hz
  | some inf =>
    rw [hi] at hz
    have hsz : inf.size = n := by simpa using hz
    simp only [loadVar, Sem.run_bind, tyAgg_run ha, Result.andThen_ok]
    cases ag
    · have h1 : n = 1 := by simpa using hn
      subst h1
      have : ∃ u, us = [u] := by
        match us, hlen with
        | [u], _ => exact ⟨u, rfl⟩
      obtain ⟨u, rfl⟩ := this
      have h0 := hread 0 u rfl
      rw [Addr.add_lit, Nat.add_zero] at h0
      simp [h0]
    · have hl := run_loadCells_list (P := P) w ⟨b, off, none⟩ us hread
      rw [hlen] at hl
      simp [sizeOf, typeInfo, hi, hsz, hl]

theorem ldi_rel {c : LV} {v : Value} (h : ImmV w imm c v) : VRel w imm loc (ldi c) v := by
  cases c <;> simp only [ldi, VRel] <;> simp only [ImmV] at h ⊢ <;> first
    | trivial
    | exact h
    | exact ⟨none, 0, h, by simp, .inl trivial⟩
theorem ldo_rel {c : LV} {v : Value} {f : List Nat} (h : OwnV w imm loc c v f) : VRel w imm loc (ldo c) v := by
  cases c <;> simp only [ldo, VRel] <;> simp only [OwnV] at h ⊢ <;> first
    | trivial
    | exact h.1
theorem ImmC_VC : ∀ {cs : List LV} {vs : List Value}, ImmC w imm cs vs → VC w imm loc (cs.map ldi) (vs.take cs.length) ∧ (∀ u ∈ vs.take cs.length, u.oneCell' = true)
  | [], vs, _ => ⟨by simp [VC], by simp⟩
  | c :: cs, vs, h => by
    simp only [ImmC] at h
    obtain ⟨v, t, rfl, h1, h2⟩ := h
    obtain ⟨k1, k2⟩ := ImmC_VC h2
    refine ⟨?_, ?_⟩
    · simp only [List.map_cons, List.length_cons, List.take_succ_cons, VC]
      exact ⟨v, _, rfl, ldi_rel h1, k1⟩
    · intro u hu
      simp only [List.length_cons, List.take_succ_cons, List.mem_cons] at hu
      rcases hu with rfl | hu
      · exact ImmV_one h1
      · exact k2 u hu
theorem OwnC_VC : ∀ {cs : List LV} {vs : List Value} {f : List Nat}, OwnC w imm loc cs vs f → VC w imm loc (cs.map ldo) (vs.take cs.length) ∧ (∀ u ∈ vs.take cs.length, u.oneCell' = true)
  | [], vs, _, _ => ⟨by simp [VC], by simp⟩
  | c :: cs, vs, f, h => by
    simp only [OwnC] at h
    obtain ⟨v, t, f1, f2, rfl, rfl, h1, h2⟩ := h
    obtain ⟨k1, k2⟩ := OwnC_VC h2
    refine ⟨?_, ?_⟩
    · simp only [List.map_cons, List.length_cons, List.take_succ_cons, VC]
      exact ⟨v, _, rfl, ldo_rel h1, k1⟩
    · intro u hu
      simp only [List.length_cons, List.take_succ_cons, List.mem_cons] at hu
      rcases hu with rfl | hu
      · exact OwnV_one h1
      · exact k2 u hu
theorem OwnR_row {esz : Nat} {xs : Rows} {vs : List Value} {fp : List Nat} {i : Nat} {r : Row} (hl : ∀ r ∈ xs, r.length = esz) (h : OwnR w imm loc xs vs fp) (e : xs[i]? = some r) : ∃ f, OwnC w imm loc r (vs.drop (i * esz)) f := by
  have hlt := (List.getElem?_eq_some_iff.1 e).1
  obtain ⟨f1, f2, _, _, h2⟩ := OwnR_split i (by omega) hl h
  have : xs.drop i = r :: xs.drop (i + 1) := by rw [List.drop_eq_getElem_cons hlt, (List.getElem?_eq_some_iff.1 e).2]
  rw [this] at h2
  simp only [OwnR] at h2
  obtain ⟨g1, g2, _, k, _⟩ := h2
  exact ⟨g1, k⟩

theorem val_of_cells {ag : Bool} {n : Nat} {cs : List LV} {us : List Value} {lv : LV} (hn : ag = true ∨ n = 1) (hl : cs.length = n) (hc : VC w imm loc cs us) (h1 : ∀ u ∈ us, u.oneCell' = true) (h : cellsVal ag cs = some lv) : VRel w imm loc lv (if ag then .agg us.toArray else us.getD 0 undef) := by
  unfold cellsVal at h
  cases ag
  · have : n = 1 := by simpa using hn
    subst this
    simp only [Bool.false_eq_true, if_false] at h ⊢
    obtain ⟨v, hv, k⟩ := VC_get hc h
    have : us.getD 0 undef = v := by simp [List.getD, hv]
    rw [this]
    exact k
  · simp only [if_true] at h ⊢
    obtain rfl := Option.some.inj h
    simp only [VRel]
    exact ⟨us, rfl, h1, hc⟩

theorem q_load {φ : Nat → List Nat} {H : Heap} {n : Nat} {ag : Bool} {x : Opd} {t : TypeId} {x' : Operand} (ho : o.op = .load t x') (hz : tySize P t = some n) (ha : tyAgg P t = some ag) (hn : ag = true ∨ n = 1)
    (hH : HRel w imm loc φ H) (hx : VRel w imm loc (x.ev env) (a.eval x')) {lv : LV} (h : evLoad n ag H (x.ev env) = some lv) : QOk P o a w imm loc lv := by
  generalize x.ev env = lx at *
  unfold evLoad at h
  split at h
  · rename_i cs
    split at h
    · rename_i hle
      simp only [VRel] at hx
      obtain ⟨b, off, cs', ty, fr, hv, him, hb, hc⟩ := hx
      have hc' := ImmC_take n hc
      obtain ⟨k1, k2⟩ := ImmC_VC (loc := loc) hc'
      have hlen := ImmC_len hc'
      have e0 : (cs.take n).length = n := by rw [List.length_take]; omega
      rw [e0] at k1 k2 hlen
      have hl : ((cs'.toList.drop off).take n).length = n := by rw [List.length_take]; omega
      have hrun := run_loadVar (P := P) (w := w) hz ha hn b off cs' ty fr hb _ rfl hl
      refine ⟨_, by simp only [execOp, ho, hv, Instr.loadAt, Sem.run_bind, run_sureAddr, hrun, Result.andThen_ok, Sem.run_pure]; rfl, ?_⟩
      exact val_of_cells hn (by simpa using e0) k1 k2 h
    · cases h
  · rename_i m e j
    cases hl : live H m with
    | none => rw [hl] at h; cases h
    | some y =>
      rw [hl] at h
      simp only [Option.bind_some] at h
      cases hr : y[e]? with
      | none => rw [hr] at h; cases h
      | some r =>
        rw [hr] at h
        simp only [Option.bind_some] at h
        split at h
        · rename_i hjn
          have hobj := hH m y hl
          simp only [VRel] at hx
          generalize hloc : loc m = l at hx hobj
          cases l with
          | unk => exact hx.elim
          | dead => exact hobj.elim
          | nil =>
            have := hobj.1
            subst this
            simp at hr
          | «at» b base esz cnt sz =>
            have hv : a.eval x' = _ := hx
            obtain ⟨hcnt, hpos, hall, cs', ty, fps, hb, hsz, hfit, hfp, hR⟩ := hobj
            obtain ⟨f, hC⟩ := OwnR_row hall hR hr
            obtain ⟨f1, f2, _, _, hC2⟩ := OwnC_split j (by omega) hC
            obtain ⟨g1, g2, _, hC3, _⟩ := OwnC_split n (by rw [List.length_drop]; omega) hC2
            obtain ⟨k1, k2⟩ := OwnC_VC hC3
            have hlen := OwnC_len hC3
            have e0 : ((r.drop j).take n).length = n := by rw [List.length_take, List.length_drop]; omega
            rw [e0] at k1 k2 hlen
            simp only [List.drop_drop] at k1 k2 hlen
            have hl' : ((cs'.toList.drop (base + e * esz + j)).take n).length = n := by rw [List.length_take]; omega
            have hrun := run_loadVar (P := P) (w := w) hz ha hn b (base + e * esz + j) cs' ty (0, 0) hb _ rfl hl'
            refine ⟨_, by simp only [execOp, ho, hv, Instr.loadAt, Sem.run_bind, run_sureAddr, hrun, Result.andThen_ok, Sem.run_pure]; rfl, ?_⟩
            exact val_of_cells hn (by simpa using e0) k1 k2 h
        · cases h
  · cases h

/-! Slicing -/
theorem optI_rel {lo : Option Opd} {lo' : Option Operand} {d : Int} (he : EnvRel w imm loc env a) (hl : optOk lo lo' = true) {r : Int} (h : optI env d lo = some r) : (lo = none ∧ lo' = none ∧ r = d) ∨ ∃ y k, lo' = some y ∧ a.eval y = .int k r := by
  cases lo with
  | none =>
    cases lo' with
    | none => exact .inl ⟨rfl, rfl, (Option.some.inj h).symm⟩
    | some y => simp [optOk] at hl
  | some x =>
    cases lo' with
    | none => simp [optOk] at hl
    | some y =>
      right
      have hx := opd_rel he (show opdOk x y = true by simpa [optOk] using hl)
      simp only [optI] at h
      generalize x.ev env = lx at hx h
      unfold asI at h
      split at h
      · obtain rfl := Option.some.inj h
        exact ⟨y, _, rfl, hx⟩
      · cases h

theorem run_sliceBound {k : IntKind} {i : Int} {y : Nat} {code : BoundsCode} (h0 : 0 ≤ i) (h1 : i ≤ y) : (Instr.sliceBound (.int k i) y code).run P w = .ok i.toNat w := by
  simp [Instr.sliceBound, asIntOf, h0, h1]
theorem run_sliceBounds {isS : Bool} {len cap : Nat} {lo hi : Option Operand} {l h : Int} (hlo : (lo = none ∧ l = 0) ∨ ∃ y k, lo = some y ∧ a.eval y = .int k l) (hhi : (hi = none ∧ h = len) ∨ ∃ y k, hi = some y ∧ a.eval y = .int k h) (h0 : 0 ≤ l) (h1 : l ≤ h) (h2 : h ≤ cap) :
    (Instr.sliceBounds isS len cap (lo.map a.eval) (hi.map a.eval) none).run P w = .ok (l.toNat, h.toNat, cap) w := by
  rcases hlo with ⟨rfl, rfl⟩ | ⟨y, k, rfl, hy⟩ <;> rcases hhi with ⟨rfl, rfl⟩ | ⟨y', k', rfl, hy'⟩
  · simp [Instr.sliceBounds]
  · simp [Instr.sliceBounds, hy', run_sliceBound (P := P) (w := w) (k := k') (show 0 ≤ h by omega) h2]
  · simp [Instr.sliceBounds, hy, run_sliceBound (P := P) (w := w) (k := k) (y := len) h0 h1]
  · have : l ≤ (h.toNat : Int) := by omega
    simp [Instr.sliceBounds, hy, hy', run_sliceBound (P := P) (w := w) (k := k') (show 0 ≤ h by omega) h2, run_sliceBound (P := P) (w := w) (k := k) (y := h.toNat) h0 this]

theorem q_sliceS {x : Opd} {lo hi : Option Opd} {t : TypeId} {x' : Operand} {lo' hi' : Option Operand} (ho : o.op = .slice t x' lo' hi' none) (hu : P.underlying t = some .string) (he : EnvRel w imm loc env a) (hxo : opdOk x x' = true) (hlo : optOk lo lo' = true) (hhi : optOk hi hi' = true) {lv : LV}
    (h : evSliceS (optI env 0 lo) (optI env (lenOf (x.ev env)) hi) (x.ev env) = some lv) : QOk P o a w imm loc lv := by
  have hx := opd_rel he hxo
  generalize x.ev env = lx at *
  unfold evSliceS at h
  split at h
  · rename_i s
    have e1 : a.eval x' = .string s := hx
    cases hl : optI env 0 lo with
    | none => rw [hl] at h; cases h
    | some l =>
      rw [hl] at h
      cases hh : optI env (lenOf (.str s)) hi with
      | none => rw [hh] at h; cases h
      | some u =>
        rw [hh] at h
        simp only [Option.bind_some] at h
        split at h
        · rename_i hb
          obtain rfl := Option.some.inj h
          have k1 : (lo' = none ∧ l = 0) ∨ ∃ y k, lo' = some y ∧ a.eval y = .int k l := (optI_rel he hlo hl).imp (fun k => ⟨k.2.1, k.2.2⟩) id
          have k2 : (hi' = none ∧ u = s.size) ∨ ∃ y k, hi' = some y ∧ a.eval y = .int k u := (optI_rel he hhi hh).imp (fun k => ⟨k.2.1, k.2.2⟩) id
          have hrun := run_sliceBounds (P := P) (w := w) (isS := false) (len := s.size) (cap := s.size) k1 k2 hb.1 hb.2.1 hb.2.2
          refine ⟨_, ?_, rfl⟩
          simp [execOp, ho, e1, Instr.sliceAt, Instr.slice, underlying, hu, hrun]
        · cases h
  · cases h

theorem q_slice {esz : Nat} {x : Opd} {lo hi : Option Opd} {t e : TypeId} {x' : Operand} {lo' hi' : Option Operand} (ho : o.op = .slice t x' lo' hi' none) (hu : P.underlying t = some (.slice e)) (hz : tySize P e = some esz) (hnd : ∀ n, loc n ≠ .dead) (he : EnvRel w imm loc env a) (hxo : opdOk x x' = true) (hlo : optOk lo lo' = true) (hhi : optOk hi hi' = true) {lv : LV}
    (h : evSlice esz (optI env 0 lo) (optI env (lenOf (x.ev env)) hi) (x.ev env) = some lv) : QOk P o a w imm loc lv := by
  have hx := opd_rel he hxo
  generalize x.ev env = lx at *
  have hsz : ∃ inf, P.info? e = some inf ∧ inf.size = esz := by
    unfold tySize at hz
    cases hi : P.info? e with
    | none => rw [hi] at hz; cases hz
    | some inf => rw [hi] at hz; exact ⟨inf, rfl, by simpa using hz⟩
  obtain ⟨inf, hinf, hsz⟩ := hsz
  -- what the machine does
  have run : ∀ (ad : Option Addr) (len cap : Nat) (l u : Int), a.eval x' = .slice ad len cap → ((lo' = none ∧ l = 0) ∨ ∃ y k, lo' = some y ∧ a.eval y = .int k l) → ((hi' = none ∧ u = len) ∨ ∃ y k, hi' = some y ∧ a.eval y = .int k u) → 0 ≤ l → l ≤ u → u ≤ cap →
      (execOp a.eval o).run P w = .ok (.value (.slice (if cap = l.toNat then ad else ad.map (·.add (l.toNat * esz))) (u.toNat - l.toNat) (cap - l.toNat))) w := by
    intro ad len cap l u hv k1 k2 h0 h1 h2
    have hrun := run_sliceBounds (P := P) (w := w) (isS := true) (len := len) (cap := cap) k1 k2 h0 h1 h2
    simp [execOp, ho, hv, Instr.sliceAt, Instr.slice, underlying, hu, hrun, sizeOf, typeInfo, hinf, hsz]
  unfold evSlice at h
  split at h
  · rename_i es xs
    cases hl : optI env 0 lo with
    | none => rw [hl] at h; cases h
    | some l =>
      rw [hl] at h
      cases hh : optI env (lenOf (.list es xs)) hi with
      | none => rw [hh] at h; cases h
      | some u =>
        rw [hh] at h
        simp only [Option.bind_some] at h
        split at h
        · rename_i hb
          obtain ⟨rfl, h0, h1, h2⟩ := hb
          obtain rfl := Option.some.inj h
          have k1 : (lo' = none ∧ l = 0) ∨ ∃ y k, lo' = some y ∧ a.eval y = .int k l := (optI_rel he hlo hl).imp (fun k => ⟨k.2.1, k.2.2⟩) id
          have k2 : (hi' = none ∧ u = xs.length) ∨ ∃ y k, hi' = some y ∧ a.eval y = .int k u := (optI_rel he hhi hh).imp (fun k => ⟨k.2.1, k.2.2⟩) id
          simp only [VRel, ImmV] at hx
          obtain ⟨ad, cap, hv, hlc, hx⟩ := hx
          refine ⟨_, run ad xs.length cap l u hv k1 k2 h0 h1 (by omega), ?_⟩
          have hlen : (vw xs l.toNat (u - l).toNat).length = u.toNat - l.toNat := by
            simp [vw]
            omega
          simp only [VRel, ImmV, hlen]
          refine ⟨_, _, rfl, by omega, ?_⟩
          rcases hx with rfl | ⟨b, off, cs, ty, fr, rfl, him, hb', hall, hR⟩
          · left; simp [vw]
          · by_cases hne : u.toNat - l.toNat = 0
            · left
              exact List.eq_nil_of_length_eq_zero (by rw [hlen]; exact hne)
            · right
              have hc : ¬ cap = l.toNat := by omega
              refine ⟨b, off + l.toNat * es, cs, ty, fr, by rw [if_neg hc]; simp [Addr.add_lit], him, hb', ?_, ?_⟩
              · intro r hr
                exact hall r (List.mem_of_mem_drop (List.mem_of_mem_take hr))
              · have := ImmR_take (u - l).toNat (ImmR_drop l.toNat (by omega) hall hR)
                rwa [List.drop_drop] at this
        · cases h
  · rename_i es n off len
    cases hl : optI env 0 lo with
    | none => rw [hl] at h; cases h
    | some l =>
      rw [hl] at h
      cases hh : optI env (lenOf (.sl es n off len)) hi with
      | none => rw [hh] at h; cases h
      | some u =>
        rw [hh] at h
        simp only [Option.bind_some] at h
        split at h
        · rename_i hb
          obtain ⟨rfl, h0, h1, h2⟩ := hb
          obtain rfl := Option.some.inj h
          have k1 : (lo' = none ∧ l = 0) ∨ ∃ y k, lo' = some y ∧ a.eval y = .int k l := (optI_rel he hlo hl).imp (fun k => ⟨k.2.1, k.2.2⟩) id
          have k2 : (hi' = none ∧ u = len) ∨ ∃ y k, hi' = some y ∧ a.eval y = .int k u := (optI_rel he hhi hh).imp (fun k => ⟨k.2.1, k.2.2⟩) id
          simp only [VRel] at hx
          generalize hloc : loc n = lc at hx
          cases lc with
          | unk => exact hx.elim
          | dead => exact absurd hloc (hnd n)
          | nil =>
            obtain ⟨e0, e1, ad, hv⟩ := hx
            subst e0; subst e1
            have : l = 0 := by omega
            subst this
            have : u = 0 := by omega
            subst this
            refine ⟨_, run ad 0 0 0 0 hv k1 k2 h0 h1 (by omega), ?_⟩
            simp [VRel, hloc, SlRel]
          | «at» b base esz' cnt sz =>
            obtain ⟨rfl, hle, ad, cap, hv, hx⟩ := hx
            have hcap : (u : Int) ≤ cap := by
              rcases hx with ⟨e0, e1⟩ | ⟨_, _, hlc⟩ <;> omega
            refine ⟨_, run ad len cap l u hv k1 k2 h0 h1 hcap, ?_⟩
            simp only [VRel, hloc, SlRel]
            have ht : (u - l).toNat = u.toNat - l.toNat := by omega
            rw [ht]
            refine ⟨by trivial, by omega, _, _, rfl, ?_⟩
            rcases hx with ⟨e0, e1⟩ | ⟨rfl, hsz', hlc⟩
            · left; omega
            · by_cases hc : cap = l.toNat
              · left; omega
              · right
                refine ⟨?_, ?_, by omega⟩
                · rw [if_neg hc]
                  simp [Addr.add_lit, Nat.add_mul, Nat.add_assoc]
                · have : off + l.toNat + (cap - l.toNat) = off + cap := by omega
                  rw [this]
                  exact hsz'
        · cases h
  · cases h

/-! Structs and arrays that are built -/
theorem foldl_splice : ∀ (us : List Value) (j off : Nat) (cs : Array Value), off + j + us.length ≤ cs.size →
    ((us.zipIdx j).foldl (fun (cs : Array Value) (p : Value × Nat) => cs.setIfInBounds (off + p.2) p.1) cs).toList = splice cs.toList (off + j) us
  | [], j, off, cs, h => by simp [splice]
  | u :: us, j, off, cs, h => by
    have hh : off + (j + 1) + us.length ≤ (cs.setIfInBounds (off + j) u).size := by simp at h ⊢; omega
    have ih := foldl_splice us (j + 1) off (cs.setIfInBounds (off + j) u) hh
    simp only [List.zipIdx_cons, List.foldl_cons]
    rw [ih]
    unfold splice
    have e := list_seg_step cs.toList (off + j) u us (by simp at h ⊢; omega)
    simpa [Array.toList_setIfInBounds, Nat.add_assoc] using e
theorem fill_step {place : Nat → Option (Nat × Nat)} {cells : Array Value} {i : Nat} {v : Value} {rest : List (Nat × Value)} {off sz : Nat} (hp : place i = some (off, sz)) (hs : v.cells.size = sz) (hle : off + sz ≤ cells.size) :
    Instr.fill place cells ((i, v) :: rest) = Instr.fill place (splice cells.toList off v.cells.toList).toArray rest := by
  simp only [Instr.fill, hp]
  have h1 : (v.cells.size ≠ sz || decide (off + v.cells.size > cells.size)) = false := by
    simp [hs]
    omega
  rw [if_neg (by simpa using h1)]
  congr 1
  apply Array.ext'
  have := foldl_splice v.cells.toList 0 off cells (by simp; omega)
  rw [← Array.foldl_toList]
  simpa [Array.toList_zipIdx] using this

theorem VC_app : ∀ {as bs : List LV} {us vs : List Value}, VC w imm loc as us → VC w imm loc bs vs → VC w imm loc (as ++ bs) (us ++ vs)
  | [], bs, us, vs, h, k => by rw [show us = [] from h]; exact k
  | a :: as, bs, us, vs, h, k => by
    simp only [VC] at h
    obtain ⟨v, t, rfl, h1, h2⟩ := h
    simp only [List.cons_append, VC]
    exact ⟨v, _, rfl, h1, VC_app h2 k⟩
theorem VC_take : ∀ {as : List LV} {us : List Value} (n : Nat), VC w imm loc as us → VC w imm loc (as.take n) (us.take n)
  | _, _, 0, _ => by simp [VC]
  | [], us, n + 1, h => by rw [show us = [] from h]; simp [VC]
  | a :: as, us, n + 1, h => by
    simp only [VC] at h
    obtain ⟨v, t, rfl, h1, h2⟩ := h
    simp only [List.take_succ_cons, VC]
    exact ⟨v, _, rfl, h1, VC_take n h2⟩
theorem VC_drop : ∀ {as : List LV} {us : List Value} (n : Nat), VC w imm loc as us → VC w imm loc (as.drop n) (us.drop n)
  | _, _, 0, h => by simpa using h
  | [], us, n + 1, h => by rw [show us = [] from h]; simp [VC]
  | a :: as, us, n + 1, h => by
    simp only [VC] at h
    obtain ⟨v, t, rfl, h1, h2⟩ := h
    simpa using VC_drop n h2
theorem VC_splice {as cs : List LV} {us vs : List Value} (off : Nat) (h : VC w imm loc as us) (k : VC w imm loc cs vs) : VC w imm loc (splice as off cs) (splice us off vs) := by
  unfold splice
  rw [VC_len k]
  exact VC_app (VC_app (VC_take _ h) k) (VC_drop _ h)
theorem one_splice {us vs : List Value} (off : Nat) (h : ∀ u ∈ us, u.oneCell' = true) (k : ∀ u ∈ vs, u.oneCell' = true) : ∀ u ∈ splice us off vs, u.oneCell' = true := by
  intro u hu
  unfold splice at hu
  simp only [List.mem_append] at hu
  rcases hu with (hu | hu) | hu
  · exact h u (List.mem_of_mem_take hu)
  · exact k u hu
  · exact h u (List.mem_of_mem_drop hu)
/-- The cells of a value that can be stored. -/
theorem cellsOf_rel {lv : LV} {v : Value} {cs : List LV} (h : VRel w imm loc lv v) (hc : cellsOf lv = some cs) : VC w imm loc cs v.cells.toList ∧ (∀ u ∈ v.cells.toList, u.oneCell' = true) := by
  cases lv <;> simp only [cellsOf] at hc <;> first
    | (cases hc; done)
    | (obtain rfl := Option.some.inj hc
       simp only [VRel] at h
       obtain ⟨vs, rfl, h1, h2⟩ := h
       exact ⟨by simpa [Value.cells] using h2, by simpa [Value.cells] using h1⟩)
    | (obtain rfl := Option.some.inj hc
       have one : v.oneCell' = true := by
         simp only [VRel] at h
         first
           | (rw [h]; rfl)
           | exact ImmV_one h
           | exact SlRel_one h
           | exact PtrRel_one h
           | (obtain ⟨vs, rfl, _⟩ := h; rfl)
           | (obtain ⟨b, off, cs', ty, fr, rfl, _⟩ := h; rfl)
       have e : v.cells = #[v] := by
         cases v <;> first | rfl | (simp [Value.oneCell'] at one)
       rw [e]
       refine ⟨?_, by simpa using one⟩
       simp only [VC]
       exact ⟨v, [], rfl, h, rfl⟩)
theorem zOk_rel : ∀ {z : List LV} {vs : List Value}, zOk z vs = true → VC w imm loc z vs ∧ (∀ u ∈ vs, u.oneCell' = true)
  | [], [], _ => ⟨rfl, by simp⟩
  | [], _ :: _, h => by simp [zOk] at h
  | _ :: _, [], h => by simp [zOk] at h
  | c :: cs, v :: vs, h => by
    simp only [zOk, Bool.and_eq_true] at h
    obtain ⟨k1, k2⟩ := zOk_rel h.2
    refine ⟨?_, ?_⟩
    · simp only [VC]
      exact ⟨v, vs, rfl, cv_rel h.1.1, k1⟩
    · intro u hu
      simp only [List.mem_cons] at hu
      rcases hu with rfl | hu
      · exact h.1.2
      · exact k2 u hu

theorem fill_rel (he : EnvRel w imm loc env a) {place : Nat → Option (Nat × Nat)} : ∀ {ps : List (Nat × Nat × Opd)} {qs : List (Nat × Operand)} {z r : Row} {cells : Array Value}, placeOk P place ps qs = true → VC w imm loc z cells.toList → (∀ u ∈ cells.toList, u.oneCell' = true) → fillP env z ps = some r →
    ∃ cells', Instr.fill place cells (qs.map fun p => (p.1, a.eval p.2)) = some cells' ∧ VC w imm loc r cells'.toList ∧ (∀ u ∈ cells'.toList, u.oneCell' = true)
  | [], [], z, r, cells, _, hz, h1, h => by
    obtain rfl := Option.some.inj h
    exact ⟨cells, rfl, hz, h1⟩
  | [], _ :: _, _, _, _, hp, _, _, _ => by simp [placeOk] at hp
  | (_, _, _) :: _, [], _, _, _, hp, _, _, _ => by simp [placeOk] at hp
  | (off, n, x) :: ps, (i, y) :: qs, z, r, cells, hp, hz, h1, h => by
    simp only [placeOk, Bool.and_eq_true, decide_eq_true_eq] at hp
    obtain ⟨⟨hpl, hxy⟩, hp⟩ := hp
    simp only [fillP] at h
    cases hc : cellsOf (x.ev env) with
    | none => rw [hc] at h; cases h
    | some cs =>
      rw [hc] at h
      simp only [Option.bind_some] at h
      split at h
      · rename_i hb
        obtain ⟨k1, k2⟩ := cellsOf_rel (opd_rel he hxy) hc
        have l1 := VC_len k1
        have l2 := VC_len hz
        have hs : (a.eval y).cells.size = n := by simpa [hb.1] using l1
        obtain ⟨cells', e1, e2, e3⟩ := fill_rel he (cells := (splice cells.toList off (a.eval y).cells.toList).toArray) hp (by simpa using VC_splice off hz k1) (by simpa using one_splice off h1 k2) h
        refine ⟨cells', ?_, e2, e3⟩
        rw [List.map_cons, fill_step hpl hs (by simp at l2; omega)]
        exact e1
      · cases h

theorem tyZero_spec {t : TypeId} {z : List LV} (h : tyZero P t z = true) : ∃ inf v, P.info? t = some inf ∧ inf.zero = some v ∧ zOk z v.cells.toList = true ∧ inf.size = z.length ∧ 0 < z.length := by
  unfold tyZero at h
  split at h
  · rename_i inf hi
    split at h
    · rename_i v hv
      simp only [Bool.and_eq_true, decide_eq_true_eq] at h
      exact ⟨inf, v, hi, hv, h.1.1, h.1.2, h.2⟩
    · cases h
  · cases h

theorem run_places (fields : Array Field) (hs : fields.toList.all (fun f => (tySize P f.type).isSome) = true) :
    ∃ ps : Array (Nat × Nat), (fields.mapM fun f => do pure (f.offset, ← sizeOf f.type) : Sem (Array (Nat × Nat))).run P w = .ok ps w ∧ ∀ i : Nat, ps[i]? = structPlaces P fields i := by
  have key : ∀ (l : List Field), l.all (fun f => (tySize P f.type).isSome) = true → ∃ ps : List (Nat × Nat), (l.mapM fun f => do pure (f.offset, ← sizeOf f.type) : Sem (List (Nat × Nat))).run P w = .ok ps w ∧ ∀ i : Nat, ps[i]? = (l[i]?).bind fun f => (tySize P f.type).map fun s => (f.offset, s) := by
    intro l
    induction l with
    | nil => intro _; exact ⟨[], by simp, by simp⟩
    | cons f l ih =>
      intro h
      simp only [List.all_cons, Bool.and_eq_true] at h
      obtain ⟨ps, e1, e2⟩ := ih h.2
      unfold tySize at h
      cases hi : P.info? f.type with
      | none => rw [hi] at h; simp at h
      | some inf =>
        refine ⟨(f.offset, inf.size) :: ps, ?_, ?_⟩
        · simp [List.mapM_cons, sizeOf, typeInfo, hi] at e1 ⊢
          simp [e1]
        · intro i
          cases i with
          | zero => simp [tySize, hi]
          | succ i => simpa using e2 i
  obtain ⟨ps, e1, e2⟩ := key fields.toList hs
  refine ⟨ps.toArray, ?_, fun i => by simpa [structPlaces] using e2 i⟩
  have e3 := e1
  simp only [bind_pure_comp] at e3
  rw [← Array.toArray_toList (xs := fields), List.mapM_toArray]
  simp [e3]

theorem q_build {z : Row} {ps : List (Nat × Nat × Opd)} {t : TypeId} {ps' : Array (Nat × Operand)} (ho : o.op = .build t ps') (he : EnvRel w imm loc env a)
    (hc : (∃ fields, P.underlying t = some (.struct fields) ∧ fields.toList.all (fun f => (tySize P f.type).isSome) = true ∧ placeOk P (structPlaces P fields) ps ps'.toList = true) ∨ (∃ n e s, P.underlying t = some (.array n e) ∧ tySize P e = some s ∧ placeOk P (fun i => some (i * s, s)) ps ps'.toList = true))
    (hz : tyZero P t z = true) {r : Row} (h : fillP env z ps = some r) : QOk P o a w imm loc (.agg r) := by
  obtain ⟨inf, v, hi, hv, hzo, hsz, hpos⟩ := tyZero_spec hz
  obtain ⟨k1, k2⟩ := zOk_rel (w := w) (imm := imm) (loc := loc) hzo
  have hzv : (zeroValue t).run P w = .ok v w := by simp [zeroValue, typeInfo, hi, hv]
  rcases hc with ⟨fields, hu, hs, hp⟩ | ⟨n, e, s, hu, hs, hp⟩
  · obtain ⟨pl, e1, e2⟩ := run_places (P := P) (w := w) fields hs
    obtain ⟨cells', f1, f2, f3⟩ := fill_rel he hp k1 k2 h
    have hpl : (fun i : Nat => pl[i]?) = structPlaces P fields := funext e2
    refine ⟨.agg cells', ?_, ?_⟩
    · have hparts : (ps'.map fun (p : Nat × Operand) => (p.1, a.eval p.2)).toList = ps'.toList.map fun p => (p.1, a.eval p.2) := by simp
      simp only [execOp, ho, Instr.build, Sem.run_bind, hzv, Result.andThen_ok, underlying, run_program, hu, Sem.run_pure, e1]
      rw [hpl, hparts, f1]
      rfl
    · simp only [VRel]
      exact ⟨cells'.toList, by simp, f3, f2⟩
  · unfold tySize at hs
    cases hi' : P.info? e with
    | none => rw [hi'] at hs; cases hs
    | some inf' =>
      rw [hi'] at hs
      have hs' : inf'.size = s := by simpa using hs
      obtain ⟨cells', f1, f2, f3⟩ := fill_rel he hp k1 k2 h
      refine ⟨.agg cells', ?_, ?_⟩
      · have hparts : (ps'.map fun (p : Nat × Operand) => (p.1, a.eval p.2)).toList = ps'.toList.map fun p => (p.1, a.eval p.2) := by simp
        simp only [execOp, ho, Instr.build, Sem.run_bind, hzv, Result.andThen_ok, underlying, run_program, hu, Sem.run_pure, sizeOf, typeInfo, hi', hs']
        rw [hparts, f1]
        rfl
      · simp only [VRel]
        exact ⟨cells'.toList, by simp, f3, f2⟩
end
end Go.Lev
