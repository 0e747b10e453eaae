/- Runs, step by step: equations by which a run of known code is worked out. -/
import Derived.Test.YtahjhlnhkoifhaaGreatZP
set_option linter.unusedVariables false
set_option linter.unusedSimpArgs false
namespace Go.Lev

/-! Each function of what is still to be known is a word of its own: nothing is worked out before it is needed. -/
def kQ (S : Sig) (d : Nat) (env : Env) (H : Heap) (r : List ROp) : Option LV → Option St
  | some v => runR S ⟨(d, v) :: env, H⟩ r
  | none => none
def kE (S : Sig) (d : Option Nat) (env : Env) (r : List ROp) : Option (LV × Heap) → Option St
  | some (v, H) => runR S ⟨put d v env, H⟩ r
  | none => none
def kV (S : Sig) (d : Nat) (env : Env) (H : Heap) (r : List ROp) (ds : List Nat) (x : Opd) : Option Env → Option St
  | some env' => runR S ⟨(d, x.ev env') :: (undefs ds ++ env), H⟩ r
  | none => none
def kCh (S : Sig) (d : Nat) (t : List ROp) (a : Opd) (e : List ROp) (b : Opd) (env : Env) (H : Heap) (r : List ROp) : LV → Option St
  | .bool true => kV S d env H r (dstsL t ++ dstsL e) a (runQ S H env t)
  | .bool false => kV S d env H r (dstsL t ++ dstsL e) b (runQ S H env e)
  | _ => none
def kQ1 (S : Sig) (d : Nat) (env : Env) (H : Heap) (r : List ROp) : Option LV → Option Env
  | some v => runQ S H ((d, v) :: env) r
  | none => none
def kV1 (S : Sig) (d : Nat) (env : Env) (H : Heap) (r : List ROp) (ds : List Nat) (x : Opd) : Option Env → Option Env
  | some env' => runQ S H ((d, x.ev env') :: (undefs ds ++ env)) r
  | none => none
def kCh1 (S : Sig) (d : Nat) (t : List ROp) (a : Opd) (e : List ROp) (b : Opd) (env : Env) (H : Heap) (r : List ROp) : LV → Option Env
  | .bool true => kV1 S d env H r (dstsL t ++ dstsL e) a (runQ S H env t)
  | .bool false => kV1 S d env H r (dstsL t ++ dstsL e) b (runQ S H env e)
  | _ => none
def kD (S : Sig) (hide : List Nat) (H0 : Heap) (d : Nat) (env : Env) (H : Heap) (r : List (Bool × ROp)) : Option LV → Option St
  | some v => runD S hide H0 ⟨(d, v) :: env, H⟩ r
  | none => none
def kDE (S : Sig) (hide : List Nat) (H0 : Heap) (d : Option Nat) (env : Env) (H : Heap) (r : List (Bool × ROp)) : Option (LV × Heap) → Option St
  | some (v, H') => if newOk H0 hide H H' = true then runD S hide H0 ⟨put d v env, H'⟩ r else none
  | none => none
def kDV (S : Sig) (hide : List Nat) (H0 : Heap) (d : Nat) (env : Env) (H : Heap) (r : List (Bool × ROp)) (ds : List Nat) (x : Opd) : Option Env → Option St
  | some env' => runD S hide H0 ⟨(d, x.ev env') :: (undefs ds ++ env), H⟩ r
  | none => none
def hD (hide : List Nat) (H0 : Heap) : Bool → Heap
  | true => H0
  | false => killed hide ++ H0
def kDCh (S : Sig) (hide : List Nat) (H0 : Heap) (ea : Bool) (d : Nat) (t : List ROp) (a : Opd) (e : List ROp) (b : Opd) (env : Env) (H : Heap) (r : List (Bool × ROp)) : LV → Option St
  | .bool true => kDV S hide H0 d env H r (dstsL t ++ dstsL e) a (runQ S (hD hide H0 ea) env t)
  | .bool false => kDV S hide H0 d env H r (dstsL t ++ dstsL e) b (runQ S (hD hide H0 ea) env e)
  | _ => none
def kReg : Option St → Option (Ex × St)
  | some s => some (.normal, s)
  | none => none
def kRegD (S : Sig) (b : List ROp) : Option St → Option (Ex × St)
  | some s => kReg (runR S s b)
  | none => none
noncomputable def kThen (S : Sig) (b : LC) : Option (Ex × St) → Option (Ex × St)
  | some (.normal, s) => runC S b s
  | some (e, s) => some (e, s)
  | none => none
noncomputable def kBr (S : Sig) (a b : LC) (s : St) : LV → Option (Ex × St)
  | .bool true => runC S a s
  | .bool false => runC S b s
  | _ => none
def kBlk (id : Nat) : Option (Ex × St) → Option (Ex × St)
  | some p => some (inBlock id p)
  | none => none
noncomputable def kLoop (S : Sig) (b : LC) (s : St) : Option (Ex × St) := Loop (fun s => stepOf (runC S b s)) s
def kKeep (ss : List Nat) (os : List (Nat × Nat)) (env : Env) : Option Heap → Option (Ex × St)
  | some h => some (.normal, ⟨keepE os env ss, h⟩)
  | none => none
def keepOk (ss : List Nat) (os : List (Nat × Nat)) : Bool := distinct (os.map (·.2)) && distinct (os.map (·.1)) && (os.all fun p => decide (p.1 = p.2) || (decide (p.1 < 900000) && decide (p.2 < 900000)))
def kq (ok : Bool) : Option (List LV × Heap) → Option LV
  | some r => some (pack1 (r.1.map (impF ok)))
  | none => none
def kFin (res : List LRes) (names : List Nat) : Option (Ex × St) → Option (List LV × Heap)
  | some (.exit _, _) => none
  | some (_, s) => (outs s s.heap res).bind fun q => (fin q.2 names).bind fun h => some (q.1, h)
  | none => none

theorem runR_nil (S : Sig) (s : St) : runR S s [] = some s := rfl
theorem runR_q (S : Sig) (env : Env) (H : Heap) (d : Nat) (k : QK) (r : List ROp) : runR S ⟨env, H⟩ (.q d k :: r) = kQ S d env H r (evQ S env H k) := by
  simp only [runR, runQ1]
  cases evQ S env H k <;> rfl
theorem kQ_some (S : Sig) (d : Nat) (env : Env) (H : Heap) (r : List ROp) (v : LV) : kQ S d env H r (some v) = runR S ⟨(d, v) :: env, H⟩ r := rfl
theorem kQ_ite (S : Sig) (d : Nat) (env : Env) (H : Heap) (r : List ROp) (p : Prop) [Decidable p] (x y : Option LV) : kQ S d env H r (if p then x else y) = if p then kQ S d env H r x else kQ S d env H r y := by split <;> rfl
theorem kQ_none (S : Sig) (d : Nat) (env : Env) (H : Heap) (r : List ROp) : kQ S d env H r none = none := rfl
theorem runR_e (S : Sig) (env : Env) (H : Heap) (d : Option Nat) (k : EK) (r : List ROp) : runR S ⟨env, H⟩ (.e d k :: r) = kE S d env r (evE S env H (d.getD 0) k) := by
  simp only [runR]
  cases evE S env H (d.getD 0) k <;> rfl
theorem kE_some (S : Sig) (d : Nat) (env : Env) (r : List ROp) (v : LV) (H : Heap) : kE S (some d) env r (some (v, H)) = runR S ⟨(d, v) :: env, H⟩ r := rfl
theorem kE_some' (S : Sig) (env : Env) (r : List ROp) (v : LV) (H : Heap) : kE S none env r (some (v, H)) = runR S ⟨env, H⟩ r := rfl
theorem kE_none (S : Sig) (d : Option Nat) (env : Env) (r : List ROp) : kE S d env r none = none := rfl
theorem runR_ch (S : Sig) (env : Env) (H : Heap) (d : Nat) (c : Opd) (t : List ROp) (a : Opd) (e : List ROp) (b : Opd) (r : List ROp) : runR S ⟨env, H⟩ (.ch d c t a e b :: r) = kCh S d t a e b env H r (c.ev env) := by
  simp only [runR, runQ1]
  cases c.ev env <;> try rfl
  rename_i p
  cases p
  · simp only [asB, Option.bind_some, Bool.false_eq_true, if_false, kCh]
    cases runQ S H env e <;> rfl
  · simp only [asB, Option.bind_some, if_true, kCh]
    cases runQ S H env t <;> rfl
theorem kCh_true (S : Sig) (d : Nat) (t : List ROp) (a : Opd) (e : List ROp) (b : Opd) (env : Env) (H : Heap) (r : List ROp) : kCh S d t a e b env H r (.bool true) = kV S d env H r (dstsL t ++ dstsL e) a (runQ S H env t) := rfl
theorem kCh_false (S : Sig) (d : Nat) (t : List ROp) (a : Opd) (e : List ROp) (b : Opd) (env : Env) (H : Heap) (r : List ROp) : kCh S d t a e b env H r (.bool false) = kV S d env H r (dstsL t ++ dstsL e) b (runQ S H env e) := rfl
theorem kCh_ite (S : Sig) (d : Nat) (t : List ROp) (a : Opd) (e : List ROp) (b : Opd) (env : Env) (H : Heap) (r : List ROp) (p : Bool) : kCh S d t a e b env H r (.bool p) = if p = true then kV S d env H r (dstsL t ++ dstsL e) a (runQ S H env t) else kV S d env H r (dstsL t ++ dstsL e) b (runQ S H env e) := by cases p <;> rfl
theorem kV_some (S : Sig) (d : Nat) (env : Env) (H : Heap) (r : List ROp) (ds : List Nat) (x : Opd) (env' : Env) : kV S d env H r ds x (some env') = runR S ⟨(d, x.ev env') :: (undefs ds ++ env), H⟩ r := rfl
theorem kV_none (S : Sig) (d : Nat) (env : Env) (H : Heap) (r : List ROp) (ds : List Nat) (x : Opd) : kV S d env H r ds x none = none := rfl
theorem kV_ite (S : Sig) (d : Nat) (env : Env) (H : Heap) (r : List ROp) (ds : List Nat) (z : Opd) (p : Prop) [Decidable p] (x y : Option Env) : kV S d env H r ds z (if p then x else y) = if p then kV S d env H r ds z x else kV S d env H r ds z y := by split <;> rfl
theorem runQ_nil (S : Sig) (H : Heap) (env : Env) : runQ S H env [] = some env := rfl
theorem runQ_q (S : Sig) (H : Heap) (env : Env) (d : Nat) (k : QK) (r : List ROp) : runQ S H env (.q d k :: r) = kQ1 S d env H r (evQ S env H k) := by
  simp only [runQ, runQ1]
  cases evQ S env H k <;> rfl
theorem kQ1_some (S : Sig) (d : Nat) (env : Env) (H : Heap) (r : List ROp) (v : LV) : kQ1 S d env H r (some v) = runQ S H ((d, v) :: env) r := rfl
theorem kQ1_none (S : Sig) (d : Nat) (env : Env) (H : Heap) (r : List ROp) : kQ1 S d env H r none = none := rfl
theorem kQ1_ite (S : Sig) (d : Nat) (env : Env) (H : Heap) (r : List ROp) (p : Prop) [Decidable p] (x y : Option LV) : kQ1 S d env H r (if p then x else y) = if p then kQ1 S d env H r x else kQ1 S d env H r y := by split <;> rfl
theorem runQ_ch (S : Sig) (H : Heap) (env : Env) (d : Nat) (c : Opd) (t : List ROp) (a : Opd) (e : List ROp) (b : Opd) (r : List ROp) : runQ S H env (.ch d c t a e b :: r) = kCh1 S d t a e b env H r (c.ev env) := by
  simp only [runQ, runQ1]
  cases c.ev env <;> try rfl
  rename_i p
  cases p
  · simp only [asB, Option.bind_some, Bool.false_eq_true, if_false, kCh1]
    cases runQ S H env e <;> rfl
  · simp only [asB, Option.bind_some, if_true, kCh1]
    cases runQ S H env t <;> rfl
theorem kCh1_true (S : Sig) (d : Nat) (t : List ROp) (a : Opd) (e : List ROp) (b : Opd) (env : Env) (H : Heap) (r : List ROp) : kCh1 S d t a e b env H r (.bool true) = kV1 S d env H r (dstsL t ++ dstsL e) a (runQ S H env t) := rfl
theorem kCh1_false (S : Sig) (d : Nat) (t : List ROp) (a : Opd) (e : List ROp) (b : Opd) (env : Env) (H : Heap) (r : List ROp) : kCh1 S d t a e b env H r (.bool false) = kV1 S d env H r (dstsL t ++ dstsL e) b (runQ S H env e) := rfl
theorem kCh1_ite (S : Sig) (d : Nat) (t : List ROp) (a : Opd) (e : List ROp) (b : Opd) (env : Env) (H : Heap) (r : List ROp) (p : Bool) : kCh1 S d t a e b env H r (.bool p) = if p = true then kV1 S d env H r (dstsL t ++ dstsL e) a (runQ S H env t) else kV1 S d env H r (dstsL t ++ dstsL e) b (runQ S H env e) := by cases p <;> rfl
theorem kV1_some (S : Sig) (d : Nat) (env : Env) (H : Heap) (r : List ROp) (ds : List Nat) (x : Opd) (env' : Env) : kV1 S d env H r ds x (some env') = runQ S H ((d, x.ev env') :: (undefs ds ++ env)) r := rfl
theorem kV1_none (S : Sig) (d : Nat) (env : Env) (H : Heap) (r : List ROp) (ds : List Nat) (x : Opd) : kV1 S d env H r ds x none = none := rfl
theorem kV1_ite (S : Sig) (d : Nat) (env : Env) (H : Heap) (r : List ROp) (ds : List Nat) (z : Opd) (p : Prop) [Decidable p] (x y : Option Env) : kV1 S d env H r ds z (if p then x else y) = if p then kV1 S d env H r ds z x else kV1 S d env H r ds z y := by split <;> rfl

theorem runD_nil (S : Sig) (hide : List Nat) (H0 : Heap) (s : St) : runD S hide H0 s [] = some s := rfl
theorem runD_q (S : Sig) (hide : List Nat) (H0 : Heap) (env : Env) (H : Heap) (ea : Bool) (d : Nat) (k : QK) (r : List (Bool × ROp)) : runD S hide H0 ⟨env, H⟩ ((ea, .q d k) :: r) = kD S hide H0 d env H r (evQ S env (hD hide H0 ea) k) := by
  cases ea
  · simp only [runD, runQ1, hD, Bool.false_eq_true, if_false]
    cases evQ S env (killed hide ++ H0) k <;> rfl
  · simp only [runD, runQ1, hD, if_true]
    cases evQ S env H0 k <;> rfl
theorem kD_some (S : Sig) (hide : List Nat) (H0 : Heap) (d : Nat) (env : Env) (H : Heap) (r : List (Bool × ROp)) (v : LV) : kD S hide H0 d env H r (some v) = runD S hide H0 ⟨(d, v) :: env, H⟩ r := rfl
theorem kD_none (S : Sig) (hide : List Nat) (H0 : Heap) (d : Nat) (env : Env) (H : Heap) (r : List (Bool × ROp)) : kD S hide H0 d env H r none = none := rfl
theorem kD_ite (S : Sig) (hide : List Nat) (H0 : Heap) (d : Nat) (env : Env) (H : Heap) (r : List (Bool × ROp)) (p : Prop) [Decidable p] (x y : Option LV) : kD S hide H0 d env H r (if p then x else y) = if p then kD S hide H0 d env H r x else kD S hide H0 d env H r y := by split <;> rfl
theorem runD_e (S : Sig) (hide : List Nat) (H0 : Heap) (env : Env) (H : Heap) (ea : Bool) (d : Option Nat) (k : EK) (r : List (Bool × ROp)) : runD S hide H0 ⟨env, H⟩ ((ea, .e d k) :: r) = kDE S hide H0 d env H r (evE S env H (d.getD 0) k) := by
  simp only [runD]
  cases evE S env H (d.getD 0) k <;> rfl
theorem kDE_some (S : Sig) (hide : List Nat) (H0 : Heap) (d : Option Nat) (env : Env) (H : Heap) (r : List (Bool × ROp)) (v : LV) (H' : Heap) : kDE S hide H0 d env H r (some (v, H')) = if newOk H0 hide H H' = true then runD S hide H0 ⟨put d v env, H'⟩ r else none := rfl
theorem runD_ch (S : Sig) (hide : List Nat) (H0 : Heap) (env : Env) (H : Heap) (ea : Bool) (d : Nat) (c : Opd) (t : List ROp) (a : Opd) (e : List ROp) (b : Opd) (r : List (Bool × ROp)) : runD S hide H0 ⟨env, H⟩ ((ea, .ch d c t a e b) :: r) = kDCh S hide H0 ea d t a e b env H r (c.ev env) := by
  simp only [runD, runQ1]
  have hh : (if ea = true then H0 else killed hide ++ H0) = hD hide H0 ea := by cases ea <;> rfl
  rw [hh]
  cases c.ev env <;> try rfl
  rename_i p
  cases p
  · simp only [asB, Option.bind_some, Bool.false_eq_true, if_false, kDCh]
    cases runQ S (hD hide H0 ea) env e <;> rfl
  · simp only [asB, Option.bind_some, if_true, kDCh]
    cases runQ S (hD hide H0 ea) env t <;> rfl
theorem kDCh_true (S : Sig) (hide : List Nat) (H0 : Heap) (ea : Bool) (d : Nat) (t : List ROp) (a : Opd) (e : List ROp) (b : Opd) (env : Env) (H : Heap) (r : List (Bool × ROp)) : kDCh S hide H0 ea d t a e b env H r (.bool true) = kDV S hide H0 d env H r (dstsL t ++ dstsL e) a (runQ S (hD hide H0 ea) env t) := rfl
theorem kDCh_false (S : Sig) (hide : List Nat) (H0 : Heap) (ea : Bool) (d : Nat) (t : List ROp) (a : Opd) (e : List ROp) (b : Opd) (env : Env) (H : Heap) (r : List (Bool × ROp)) : kDCh S hide H0 ea d t a e b env H r (.bool false) = kDV S hide H0 d env H r (dstsL t ++ dstsL e) b (runQ S (hD hide H0 ea) env e) := rfl
theorem kDCh_ite (S : Sig) (hide : List Nat) (H0 : Heap) (ea : Bool) (d : Nat) (t : List ROp) (a : Opd) (e : List ROp) (b : Opd) (env : Env) (H : Heap) (r : List (Bool × ROp)) (p : Bool) : kDCh S hide H0 ea d t a e b env H r (.bool p) = if p = true then kDV S hide H0 d env H r (dstsL t ++ dstsL e) a (runQ S (hD hide H0 ea) env t) else kDV S hide H0 d env H r (dstsL t ++ dstsL e) b (runQ S (hD hide H0 ea) env e) := by cases p <;> rfl
theorem kDV_some (S : Sig) (hide : List Nat) (H0 : Heap) (d : Nat) (env : Env) (H : Heap) (r : List (Bool × ROp)) (ds : List Nat) (x : Opd) (env' : Env) : kDV S hide H0 d env H r ds x (some env') = runD S hide H0 ⟨(d, x.ev env') :: (undefs ds ++ env), H⟩ r := rfl
theorem kDV_none (S : Sig) (hide : List Nat) (H0 : Heap) (d : Nat) (env : Env) (H : Heap) (r : List (Bool × ROp)) (ds : List Nat) (x : Opd) : kDV S hide H0 d env H r ds x none = none := rfl
theorem kDV_ite (S : Sig) (hide : List Nat) (H0 : Heap) (d : Nat) (env : Env) (H : Heap) (r : List (Bool × ROp)) (ds : List Nat) (z : Opd) (p : Prop) [Decidable p] (x y : Option Env) : kDV S hide H0 d env H r ds z (if p then x else y) = if p then kDV S hide H0 d env H r ds z x else kDV S hide H0 d env H r ds z y := by split <;> rfl
theorem hD_true (hide : List Nat) (H0 : Heap) : hD hide H0 true = H0 := rfl
theorem hD_false (hide : List Nat) (H0 : Heap) : hD hide H0 false = killed hide ++ H0 := rfl
theorem undefs_nil : undefs [] = [] := rfl
theorem undefs_cons (n : Nat) (l : List Nat) : undefs (n :: l) = (n, .undef) :: undefs l := rfl

theorem runC_skip (S : Sig) (s : St) : runC S .skip s = some (.normal, s) := rfl
theorem runC_reg (S : Sig) (ops : List ROp) (s : St) : runC S (.reg ops) s = kReg (runR S s ops) := by
  simp only [runC]; cases runR S s ops <;> rfl
theorem kReg_some (s : St) : kReg (some s) = some (.normal, s) := rfl
theorem kReg_none : kReg none = none := rfl
theorem kReg_ite (p : Prop) [Decidable p] (x y : Option St) : kReg (if p then x else y) = if p then kReg x else kReg y := by split <;> rfl
theorem runC_regD (S : Sig) (hide : List Nat) (a : List (Bool × ROp)) (b : List ROp) (env : Env) (H : Heap) : runC S (.regD hide a b) ⟨env, H⟩ = kRegD S b (runD S hide H ⟨env, H⟩ a) := by
  simp only [runC]
  cases runD S hide H ⟨env, H⟩ a with
  | none => rfl
  | some s => simp only [Option.bind_some, kRegD]; cases runR S s b <;> rfl
theorem kRegD_some (S : Sig) (b : List ROp) (s : St) : kRegD S b (some s) = kReg (runR S s b) := rfl
theorem kRegD_none (S : Sig) (b : List ROp) : kRegD S b none = none := rfl
theorem kRegD_ite (S : Sig) (b : List ROp) (p : Prop) [Decidable p] (x y : Option St) : kRegD S b (if p then x else y) = if p then kRegD S b x else kRegD S b y := by split <;> rfl
theorem runC_seq (S : Sig) (a b : LC) (s : St) : runC S (.seq a b) s = kThen S b (runC S a s) := by
  simp only [runC]
  cases runC S a s with
  | none => rfl
  | some p => obtain ⟨e, s'⟩ := p; cases e <;> rfl
theorem kThen_normal (S : Sig) (b : LC) (s : St) : kThen S b (some (.normal, s)) = runC S b s := rfl
theorem kThen_exit (S : Sig) (b : LC) (i : Nat) (s : St) : kThen S b (some (.exit i, s)) = some (.exit i, s) := rfl
theorem kThen_ret (S : Sig) (b : LC) (s : St) : kThen S b (some (.ret, s)) = some (.ret, s) := rfl
theorem kThen_none (S : Sig) (b : LC) : kThen S b none = none := rfl
theorem kThen_ite (S : Sig) (b : LC) (p : Prop) [Decidable p] (x y : Option (Ex × St)) : kThen S b (if p then x else y) = if p then kThen S b x else kThen S b y := by split <;> rfl
theorem runC_cond (S : Sig) (c : Opd) (a b : LC) (env : Env) (H : Heap) : runC S (.cond c a b) ⟨env, H⟩ = kBr S a b ⟨env, H⟩ (c.ev env) := by
  simp only [runC]
  cases c.ev env <;> try rfl
  rename_i p
  cases p <;> rfl
theorem kBr_true (S : Sig) (a b : LC) (s : St) : kBr S a b s (.bool true) = runC S a s := rfl
theorem kBr_false (S : Sig) (a b : LC) (s : St) : kBr S a b s (.bool false) = runC S b s := rfl
theorem kBr_ite (S : Sig) (a b : LC) (s : St) (p : Bool) : kBr S a b s (.bool p) = if p = true then runC S a s else runC S b s := by cases p <;> rfl
theorem runC_block (S : Sig) (id : Nat) (b : LC) (s : St) : runC S (.block id b) s = kBlk id (runC S b s) := by
  simp only [runC]; cases runC S b s <;> rfl
theorem kBlk_normal (id : Nat) (s : St) : kBlk id (some (.normal, s)) = some (.normal, s) := rfl
theorem kBlk_ret (id : Nat) (s : St) : kBlk id (some (.ret, s)) = some (.ret, s) := rfl
theorem kBlk_exit (id i : Nat) (s : St) : kBlk id (some (.exit i, s)) = if i = id then some (.normal, s) else some (.exit i, s) := by
  simp only [kBlk, inBlock]; split <;> rfl
theorem kBlk_none (id : Nat) : kBlk id none = none := rfl
theorem kBlk_ite (id : Nat) (p : Prop) [Decidable p] (x y : Option (Ex × St)) : kBlk id (if p then x else y) = if p then kBlk id x else kBlk id y := by split <;> rfl
theorem runC_loop (S : Sig) (b : LC) (s : St) : runC S (.loop b) s = kLoop S b s := rfl
theorem runC_exit (S : Sig) (id : Nat) (s : St) : runC S (.exit id) s = some (.exit id, s) := rfl
theorem runC_ret (S : Sig) (s : St) : runC S .ret s = some (.ret, s) := rfl
theorem runC_keep (S : Sig) (ss : List Nat) (os : List (Nat × Nat)) (env : Env) (H : Heap) : runC S (.keep ss os) ⟨env, H⟩ = if keepOk ss os = true then kKeep ss os env (keepH os H os) else none := by
  simp only [runC, keepOk, Bool.and_eq_true]
  simp only [and_assoc]
  split
  · cases keepH os H os <;> rfl
  · rfl
theorem kKeep_some (ss : List Nat) (os : List (Nat × Nat)) (env : Env) (h : Heap) : kKeep ss os env (some h) = some (.normal, ⟨keepE os env ss, h⟩) := rfl
theorem runC_kp (S : Sig) (ss : List Nat) (env : Env) (H : Heap) : runC S (.kp ss) ⟨env, H⟩ = some (.normal, ⟨ss.map fun n => (n, (look env n).getD .undef), H⟩) := rfl

/-- A loop: one round, and the rest. -/
theorem kLoop_normal {S : Sig} {b : LC} {s s' : St} (h : runC S b s = some (.normal, s')) : kLoop S b s = kLoop S b s' := by
  unfold kLoop
  rw [Loop_eq, h]
  rfl
theorem kLoop_exit {S : Sig} {b : LC} {s s' : St} {i : Nat} (h : runC S b s = some (.exit i, s')) : kLoop S b s = some (.exit i, s') := by
  unfold kLoop
  rw [Loop_eq, h]
  rfl
theorem kLoop_ret {S : Sig} {b : LC} {s s' : St} (h : runC S b s = some (.ret, s')) : kLoop S b s = some (.ret, s') := by
  unfold kLoop
  rw [Loop_eq, h]
  rfl

/-! ### Functions -/
theorem runF_eq (S : Sig) (np nt : Nat) (code : LC) (res : List LRes) (args : List LV) (objs : Heap) : runF S ⟨np, nt, code, res⟩ args objs = if args.length = np then kFin res (objs.map (·.1)) (runC S code ⟨enumL 0 args, objs⟩) else none := by
  unfold runF
  split
  · cases runC S code ⟨enumL 0 args, objs⟩ with
    | none => rfl
    | some p => obtain ⟨e, s⟩ := p; cases e <;> rfl
  · rfl
theorem kFin_normal (res : List LRes) (names : List Nat) (s : St) : kFin res names (some (.normal, s)) = (outs s s.heap res).bind fun q => (fin q.2 names).bind fun h => some (q.1, h) := rfl
theorem kFin_ret (res : List LRes) (names : List Nat) (s : St) : kFin res names (some (.ret, s)) = (outs s s.heap res).bind fun q => (fin q.2 names).bind fun h => some (q.1, h) := rfl
theorem kFin_ite (res : List LRes) (names : List Nat) (p : Prop) [Decidable p] (x y : Option (Ex × St)) : kFin res names (if p then x else y) = if p then kFin res names x else kFin res names y := by split <;> rfl
theorem qcall_eq (S : Sig) (f : Nat) (H : Heap) (vs : List LV) : qcall S f H vs = kq (vs.all LV.noRef) (S f (vs.map (frz H)) []) := by
  unfold qcall
  cases S f (vs.map (frz H)) [] <;> rfl
theorem kq_some (ok : Bool) (r : List LV × Heap) : kq ok (some r) = some (pack1 (r.1.map (impF ok))) := rfl
theorem kq_none (ok : Bool) : kq ok none = none := rfl
theorem kq_ite (ok : Bool) (p : Prop) [Decidable p] (x y : Option (List LV × Heap)) : kq ok (if p then x else y) = if p then kq ok x else kq ok y := by split <;> rfl

theorem evBin_int (op : BinOp) (k : IntKind) (a b : Int) : evBin op (.int k a) (.int k b) = intBin op k a b := by simp [evBin]
theorem evBin_str (op : BinOp) (a b : ByteArray) : evBin op (.str a) (.str b) = strBin op a b := rfl
theorem look_hit {α : Type} (n : Nat) (v : α) (r : List (Nat × α)) : look ((n, v) :: r) n = some v := by simp [look]
theorem ev_t (env : Env) (s : Nat) : (Opd.t s).ev env = (look env s).getD .undef := rfl
theorem ev_c (env : Env) (v : LV) : (Opd.c v).ev env = v := rfl
end Go.Lev
