/- All equations by which runs are worked out, in one word. -/
import Derived.Test.YtahjhlnhkoifhaaGreatZR
set_option linter.unusedVariables false
set_option maxRecDepth 100000
namespace Go.Lev
theorem enumL_nil (i : Nat) : enumL i [] = [] := rfl
theorem enumL_cons (i : Nat) (v : LV) (r : List LV) : enumL i (v :: r) = (i, v) :: enumL (i + 1) r := rfl
theorem dstsL_nil : dstsL [] = [] := by simp [dstsL]
theorem dstsL_cons (o : ROp) (r : List ROp) : dstsL (o :: r) = o.dsts ++ dstsL r := by simp [dstsL]
theorem dsts_q (d : Nat) (k : QK) : (ROp.q d k).dsts = [d] := by simp [ROp.dsts]
theorem dsts_ch (d : Nat) (c : Opd) (t : List ROp) (a : Opd) (e : List ROp) (b : Opd) : (ROp.ch d c t a e b).dsts = dstsL t ++ dstsL e ++ [d] := by simp [ROp.dsts]
theorem fin_nil (H : Heap) : fin H [] = some [] := rfl
def fin1 (n : Nat) (r : Heap) (x : Option Rows) : Option Heap := match x with
  | none => some ((n, none) :: r)
  | some y => if rowsPlain y then some ((n, some y) :: r) else none
def finK (n : Nat) (x : Option Rows) : Option Heap → Option Heap
  | some r => fin1 n r x
  | none => none
def finL (n : Nat) (H : Heap) (r : List Nat) : Option (Option Rows) → Option Heap
  | some x => finK n x (fin H r)
  | none => none
theorem fin_cons (H : Heap) (n : Nat) (r : List Nat) : fin H (n :: r) = finL n H r (look H n) := by
  simp only [fin]
  cases look H n with
  | none => rfl
  | some x =>
    simp only [Option.bind_some, finL]
    cases fin H r with
    | none => rfl
    | some h => cases x <;> rfl
theorem finL_some (n : Nat) (H : Heap) (r : List Nat) (x : Option Rows) : finL n H r (some x) = finK n x (fin H r) := rfl
theorem finK_some (n : Nat) (x : Option Rows) (r : Heap) : finK n x (some r) = fin1 n r x := rfl
theorem fin1_some (n : Nat) (r : Heap) (y : Rows) : fin1 n r (some y) = if rowsPlain y then some ((n, some y) :: r) else none := rfl
theorem fin1_none (n : Nat) (r : Heap) : fin1 n r none = some ((n, none) :: r) := rfl
theorem live_hit (n : Nat) (x : Option Rows) (H : Heap) : live ((n, x) :: H) n = x := by simp [live_cons]
def kpL (h : Option Heap) (n : Nat) (y : Rows) : Option Heap := match h with
  | some r => some ((n, some y) :: r)
  | none => none
def kpO (os : List (Nat × Nat)) (n : Nat) (h : Option Heap) : Option Rows → Option Heap
  | some x => kpL h n (if rowsPlain x then x else x.map (·.map (ren0 os)))
  | none => none
theorem keepH_nil (os : List (Nat × Nat)) (H : Heap) : keepH os H [] = some [] := rfl
theorem keepH_cons (os : List (Nat × Nat)) (H : Heap) (o n : Nat) (r : List (Nat × Nat)) : keepH os H ((o, n) :: r) = kpO os n (keepH os H r) (live H o) := by
  simp only [keepH]
  cases live H o with
  | none => rfl
  | some x => simp only [Option.bind_some, kpO]; cases keepH os H r <;> rfl
theorem kpO_some (os : List (Nat × Nat)) (n : Nat) (h : Option Heap) (x : Rows) : kpO os n h (some x) = kpL h n (if rowsPlain x then x else x.map (·.map (ren0 os))) := rfl
theorem kpL_some (r : Heap) (n : Nat) (y : Rows) : kpL (some r) n y = some ((n, some y) :: r) := rfl
theorem keepE_eq (os : List (Nat × Nat)) (env : Env) (ss : List Nat) : keepE os env ss = ss.map fun s => (s, ren os ((look env s).getD .undef)) := rfl
theorem ren_int (os : List (Nat × Nat)) (k : IntKind) (n : Int) : ren os (.int k n) = .int k n := rfl
theorem ren_bool (os : List (Nat × Nat)) (b : Bool) : ren os (.bool b) = .bool b := rfl
theorem ren_str (os : List (Nat × Nat)) (s : ByteArray) : ren os (.str s) = .str s := rfl
theorem ren_list (os : List (Nat × Nat)) (es : Nat) (xs : Rows) : ren os (.list es xs) = .list es xs := rfl
theorem ren_nil (os : List (Nat × Nat)) (es : Nat) : ren os (.nil es) = .nil es := rfl
theorem ren_pimm (os : List (Nat × Nat)) (cs : List LV) : ren os (.pimm cs) = .pimm cs := rfl
theorem ren_undef (os : List (Nat × Nat)) : ren os .undef = .undef := rfl
theorem ren_tup (os : List (Nat × Nat)) (cs : List LV) : ren os (.tup cs) = .undef := rfl
theorem ren_agg (os : List (Nat × Nat)) (cs : List LV) : ren os (.agg cs) = .agg (cs.map (ren0 os)) := rfl
theorem ren_fn (os : List (Nat × Nat)) (f : Nat) (cs : List LV) : ren os (.fn f cs) = .fn f (cs.map (ren0 os)) := rfl
def renS (es off len : Nat) : Option Nat → LV
  | some n => .sl es n off len
  | none => .undef
def renP (e j : Nat) : Option Nat → LV
  | some n => .ptr n e j
  | none => .undef
theorem ren_sl (os : List (Nat × Nat)) (es o off len : Nat) : ren os (.sl es o off len) = renS es off len (look os o) := by simp only [ren, ren0]; cases look os o <;> rfl
theorem ren_ptr (os : List (Nat × Nat)) (o e j : Nat) : ren os (.ptr o e j) = renP e j (look os o) := by simp only [ren, ren0]; cases look os o <;> rfl
theorem ren0_sl (os : List (Nat × Nat)) (es o off len : Nat) : ren0 os (.sl es o off len) = renS es off len (look os o) := by simp only [ren0]; cases look os o <;> rfl
theorem ren0_ptr (os : List (Nat × Nat)) (o e j : Nat) : ren0 os (.ptr o e j) = renP e j (look os o) := by simp only [ren0]; cases look os o <;> rfl
theorem renS_some (es off len n : Nat) : renS es off len (some n) = .sl es n off len := rfl
theorem renP_some (e j n : Nat) : renP e j (some n) = .ptr n e j := rfl
theorem ren0_int (os : List (Nat × Nat)) (k : IntKind) (n : Int) : ren0 os (.int k n) = .int k n := rfl
theorem ren0_bool (os : List (Nat × Nat)) (b : Bool) : ren0 os (.bool b) = .bool b := rfl
theorem ren0_str (os : List (Nat × Nat)) (s : ByteArray) : ren0 os (.str s) = .str s := rfl
theorem ren0_list (os : List (Nat × Nat)) (es : Nat) (xs : Rows) : ren0 os (.list es xs) = .list es xs := rfl
theorem ren0_arr (os : List (Nat × Nat)) (es : Nat) (xs : Rows) : ren0 os (.arr es xs) = .arr es xs := rfl
theorem ren0_nil (os : List (Nat × Nat)) (es : Nat) : ren0 os (.nil es) = .nil es := rfl
theorem ren0_undef (os : List (Nat × Nat)) : ren0 os .undef = .undef := rfl
theorem ldi_int (k : IntKind) (n : Int) : ldi (.int k n) = .int k n := rfl
theorem ldi_bool (b : Bool) : ldi (.bool b) = .bool b := rfl
theorem ldi_str (s : ByteArray) : ldi (.str s) = .str s := rfl
theorem ldi_list (es : Nat) (xs : Rows) : ldi (.list es xs) = .list es xs := rfl
theorem ldi_arr (es : Nat) (xs : Rows) : ldi (.arr es xs) = .list es xs := rfl
theorem ldi_nil (es : Nat) : ldi (.nil es) = .list es [] := rfl
theorem ldo_int (k : IntKind) (n : Int) : ldo (.int k n) = .int k n := rfl
theorem ldo_bool (b : Bool) : ldo (.bool b) = .bool b := rfl
theorem ldo_str (s : ByteArray) : ldo (.str s) = .str s := rfl
theorem ldo_list (es : Nat) (xs : Rows) : ldo (.list es xs) = .list es xs := rfl
theorem ldo_nil (es : Nat) : ldo (.nil es) = .nil es := rfl
theorem ldo_sl (es o off len : Nat) : ldo (.sl es o off len) = .sl es o off len := rfl
theorem ldo_ptr (o e j : Nat) : ldo (.ptr o e j) = .ptr o e j := rfl
theorem ldo_undef : ldo .undef = .undef := rfl
theorem ldo_arr (es : Nat) (xs : Rows) : ldo (.arr es xs) = .undef := rfl
theorem cellsOf_agg (cs : List LV) : cellsOf (.agg cs) = some cs := rfl
theorem cellsOf_int (k : IntKind) (n : Int) : cellsOf (.int k n) = some [.int k n] := rfl
theorem cellsOf_bool (b : Bool) : cellsOf (.bool b) = some [.bool b] := rfl
theorem cellsOf_str (s : ByteArray) : cellsOf (.str s) = some [.str s] := rfl
theorem cellsOf_list (es : Nat) (xs : Rows) : cellsOf (.list es xs) = some [.list es xs] := rfl
theorem cellsOf_nil (es : Nat) : cellsOf (.nil es) = some [.nil es] := rfl
theorem cellsOf_sl (es o off len : Nat) : cellsOf (.sl es o off len) = some [.sl es o off len] := rfl
theorem cellsOf_ptr (o e j : Nat) : cellsOf (.ptr o e j) = some [.ptr o e j] := rfl
theorem impF_int (ok : Bool) (k : IntKind) (n : Int) : impF ok (.int k n) = .int k n := rfl
theorem impF_bool (ok : Bool) (b : Bool) : impF ok (.bool b) = .bool b := rfl
theorem impF_str (ok : Bool) (s : ByteArray) : impF ok (.str s) = .str s := rfl
theorem impF_list (es : Nat) (xs : Rows) : impF true (.list es xs) = .list es xs := rfl
theorem impF_arr (ok : Bool) (es : Nat) (xs : Rows) : impF ok (.arr es xs) = if ok || pureR xs then .list es xs else .undef := rfl
theorem impF_agg (ok : Bool) (cs : List LV) : impF ok (.agg cs) = .agg (cs.map (impF0 ok)) := rfl
theorem impF0_int (ok : Bool) (k : IntKind) (n : Int) : impF0 ok (.int k n) = .int k n := rfl
theorem impF0_bool (ok : Bool) (b : Bool) : impF0 ok (.bool b) = .bool b := rfl
theorem impF0_str (ok : Bool) (s : ByteArray) : impF0 ok (.str s) = .str s := rfl
theorem impF0_list (es : Nat) (xs : Rows) : impF0 true (.list es xs) = .list es xs := rfl
theorem impF0_arr (ok : Bool) (es : Nat) (xs : Rows) : impF0 ok (.arr es xs) = if ok || pureR xs then .list es xs else .undef := rfl
theorem pack1_one (v : LV) : pack1 [v] = v := rfl
theorem pack1_two (v u : LV) (r : List LV) : pack1 (v :: u :: r) = .tup (v :: u :: r) := rfl
theorem noRef_int (k : IntKind) (n : Int) : (LV.int k n).noRef = true := rfl
theorem noRef_bool (b : Bool) : (LV.bool b).noRef = true := rfl
theorem noRef_str (s : ByteArray) : (LV.str s).noRef = true := rfl
theorem noRef_list (es : Nat) (xs : Rows) : (LV.list es xs).noRef = true := rfl
theorem noRef_nil (es : Nat) : (LV.nil es).noRef = true := rfl
theorem noRef_pimm (cs : List LV) : (LV.pimm cs).noRef = true := rfl
theorem noRef_sl (es o off len : Nat) : (LV.sl es o off len).noRef = false := rfl
theorem noRef_ptr (o e j : Nat) : (LV.ptr o e j).noRef = false := rfl
theorem noRef_agg (cs : List LV) : (LV.agg cs).noRef = cs.all LV.noRef0 := rfl
theorem noRef_fn (f : Nat) (cs : List LV) : (LV.fn f cs).noRef = cs.all LV.noRef0 := rfl
theorem noRef0_int (k : IntKind) (n : Int) : (LV.int k n).noRef0 = true := rfl
theorem noRef0_bool (b : Bool) : (LV.bool b).noRef0 = true := rfl
theorem noRef0_str (s : ByteArray) : (LV.str s).noRef0 = true := rfl
theorem noRef0_list (es : Nat) (xs : Rows) : (LV.list es xs).noRef0 = true := rfl
theorem noRef0_nil (es : Nat) : (LV.nil es).noRef0 = true := rfl
theorem noRef0_sl (es o off len : Nat) : (LV.sl es o off len).noRef0 = false := rfl
theorem noRef0_ptr (o e j : Nat) : (LV.ptr o e j).noRef0 = false := rfl
theorem freshN_eq (H : Heap) (n : Nat) : freshN H n = ((look H n).isNone && decide (n < 900000)) := rfl
theorem look_nil {α : Type} (n : Nat) : look ([] : List (Nat × α)) n = none := rfl
theorem live_nil (n : Nat) : live [] n = none := rfl
theorem splice_eq {α : Type} (r : List α) (off : Nat) (cs : List α) : splice r off cs = r.take off ++ cs ++ r.drop (off + cs.length) := rfl
theorem chop_zero (esz : Nat) (r : Row) : chop esz 0 r = [] := rfl
theorem chop_succ (esz n : Nat) (r : Row) : chop esz (n + 1) r = r.take esz :: chop esz n (r.drop esz) := rfl
theorem scalar_int (k : IntKind) (n : Int) : (LV.int k n).scalar = true := rfl
theorem scalar_bool (b : Bool) : (LV.bool b).scalar = true := rfl
theorem scalar_str (s : ByteArray) : (LV.str s).scalar = true := rfl
theorem plain_int (k : IntKind) (n : Int) : (LV.int k n).plain = true := rfl
theorem plain_bool (b : Bool) : (LV.bool b).plain = true := rfl
theorem plain_str (s : ByteArray) : (LV.str s).plain = true := rfl
theorem plain_arr (es : Nat) (xs : Rows) : (LV.arr es xs).plain = true := rfl
theorem plain_list (es : Nat) (xs : Rows) : (LV.list es xs).plain = true := rfl
theorem plain_nil (es : Nat) : (LV.nil es).plain = true := rfl
theorem plain_sl (es o off len : Nat) : (LV.sl es o off len).plain = false := rfl
theorem plain_ptr (o e j : Nat) : (LV.ptr o e j).plain = false := rfl
theorem rowsPlain_nil : rowsPlain [] = true := rfl
theorem rowsPlain_cons (r : Row) (x : Rows) : rowsPlain (r :: x) = (r.all LV.plain && rowsPlain x) := rfl
theorem rowsScalar_nil : rowsScalar [] = true := rfl
theorem rowsScalar_cons (r : Row) (x : Rows) : rowsScalar (r :: x) = (r.all LV.scalar && rowsScalar x) := rfl
theorem put_some (d : Nat) (v : LV) (env : Env) : put (some d) v env = (d, v) :: env := rfl
theorem put_none (v : LV) (env : Env) : put none v env = env := rfl
theorem newOk_eq (H0 : Heap) (hide : List Nat) (H H' : Heap) : newOk H0 hide H H' = (H'.take (H'.length - H.length)).all fun q => (look H0 q.1).isNone || hide.contains q.1 := rfl
theorem killed_nil : killed [] = [] := rfl
theorem killed_cons (n : Nat) (r : List Nat) : killed (n :: r) = (n, none) :: killed r := rfl
theorem distinct_nil : distinct [] = true := rfl
theorem distinct_cons (n : Nat) (r : List Nat) : distinct (n :: r) = (!(r.contains n) && distinct r) := rfl
theorem keepOk_eq (ss : List Nat) (os : List (Nat × Nat)) : keepOk ss os = (distinct (os.map (·.2)) && distinct (os.map (·.1)) && (os.all fun p => decide (p.1 = p.2) || (decide (p.1 < 900000) && decide (p.2 < 900000)))) := rfl
theorem vw_all (x : Rows) : vw x 0 x.length = x := by simp [vw]
theorem vw_nil (off len : Nat) : vw [] off len = [] := by simp [vw]
theorem impR_nil (ok : Bool) (n : Nat) : impR ok n [] = ([], []) := rfl
theorem impR_agg (ok : Bool) (n : Nat) (cs r : List LV) : impR ok n (.agg cs :: r) = (.agg (impC ok n cs).1 :: (impR ok (n + 50) r).1, (impC ok n cs).2 ++ (impR ok (n + 50) r).2) := rfl
theorem impR_int (ok : Bool) (n : Nat) (k : IntKind) (a : Int) (r : List LV) : impR ok n (.int k a :: r) = (.int k a :: (impR ok (n + 50) r).1, (impR ok (n + 50) r).2) := rfl
theorem impR_bool (ok : Bool) (n : Nat) (b : Bool) (r : List LV) : impR ok n (.bool b :: r) = (.bool b :: (impR ok (n + 50) r).1, (impR ok (n + 50) r).2) := rfl
theorem impR_str (ok : Bool) (n : Nat) (s : ByteArray) (r : List LV) : impR ok n (.str s :: r) = (.str s :: (impR ok (n + 50) r).1, (impR ok (n + 50) r).2) := rfl
theorem impR_arr (ok : Bool) (n es : Nat) (xs : Rows) (r : List LV) : impR ok n (.arr es xs :: r) = (.sl es n 0 xs.length :: (impR ok (n + 50) r).1, (n, some xs) :: (impR ok (n + 50) r).2) := rfl
theorem impR_list (n es : Nat) (xs : Rows) (r : List LV) : impR true n (.list es xs :: r) = (.list es xs :: (impR true (n + 50) r).1, (impR true (n + 50) r).2) := rfl
theorem impC_nil (ok : Bool) (n : Nat) : impC ok n [] = ([], []) := rfl
theorem impC_arr (ok : Bool) (n es : Nat) (xs : Rows) (r : List LV) : impC ok n (.arr es xs :: r) = (.sl es n 0 xs.length :: (impC ok (n + 1) r).1, (n, some xs) :: (impC ok (n + 1) r).2) := rfl
theorem impC_int (ok : Bool) (n : Nat) (k : IntKind) (a : Int) (r : List LV) : impC ok n (.int k a :: r) = (.int k a :: (impC ok (n + 1) r).1, (impC ok (n + 1) r).2) := rfl
theorem impC_bool (ok : Bool) (n : Nat) (b : Bool) (r : List LV) : impC ok n (.bool b :: r) = (.bool b :: (impC ok (n + 1) r).1, (impC ok (n + 1) r).2) := rfl
theorem impC_str (ok : Bool) (n : Nat) (s : ByteArray) (r : List LV) : impC ok n (.str s :: r) = (.str s :: (impC ok (n + 1) r).1, (impC ok (n + 1) r).2) := rfl
theorem impC_list (n es : Nat) (xs : Rows) (r : List LV) : impC true n (.list es xs :: r) = (.list es xs :: (impC true (n + 1) r).1, (impC true (n + 1) r).2) := rfl
theorem lendN_nil (lent : List Nat) (i : Nat) : lendN lent i [] = [] := rfl
theorem lendN_cons (lent : List Nat) (i : Nat) (v : LV) (r : List LV) : lendN lent i (v :: r) = (if lent.contains i then lendArg (900000 + i * 1000) v else []) ++ lendN lent (i + 1) r := rfl
theorem lendArg_agg (n : Nat) (cs : List LV) : lendArg n (.agg cs) = lendCs n cs := rfl
theorem lendArg_sl (n es o off len : Nat) : lendArg n (.sl es o off len) = [(n, o)] := rfl
theorem lendArg_ptr (n o e j : Nat) : lendArg n (.ptr o e j) = [(n, o)] := rfl
theorem lendCs_nil (n : Nat) : lendCs n [] = [] := rfl
theorem lendCs_cons (n : Nat) (c : LV) (r : List LV) : lendCs n (c :: r) = lend1 n c ++ lendCs (n + 1) r := rfl
theorem lend1_sl (n es o off len : Nat) : lend1 n (.sl es o off len) = [(n, o)] := rfl
theorem lend1_ptr (n o e j : Nat) : lend1 n (.ptr o e j) = [(n, o)] := rfl
theorem lend1_int (n : Nat) (k : IntKind) (a : Int) : lend1 n (.int k a) = [] := rfl
theorem lend1_bool (n : Nat) (b : Bool) : lend1 n (.bool b) = [] := rfl
theorem lend1_str (n : Nat) (s : ByteArray) : lend1 n (.str s) = [] := rfl
theorem lend1_list (n es : Nat) (xs : Rows) : lend1 n (.list es xs) = [] := rfl
theorem lend1_nil (n es : Nat) : lend1 n (.nil es) = [] := rfl
theorem lendV_nil (H : Heap) (lent : List Nat) (i : Nat) : lendV H lent i [] = [] := rfl
theorem lendV_cons (H : Heap) (lent : List Nat) (i : Nat) (v : LV) (r : List LV) : lendV H lent i (v :: r) = (if lent.contains i then lvArg H (900000 + i * 1000) v else frz H v) :: lendV H lent (i + 1) r := rfl
theorem lvArg_agg (H : Heap) (n : Nat) (cs : List LV) : lvArg H n (.agg cs) = .agg (lvCs H n cs) := rfl
theorem lvArg_sl (H : Heap) (n es o off len : Nat) : lvArg H n (.sl es o off len) = .sl es n off len := rfl
theorem lvArg_ptr (H : Heap) (n o e j : Nat) : lvArg H n (.ptr o e j) = .ptr n e j := rfl
theorem lvCs_nil (H : Heap) (n : Nat) : lvCs H n [] = [] := rfl
theorem lvCs_cons (H : Heap) (n : Nat) (c : LV) (r : List LV) : lvCs H n (c :: r) = lv1 H n c :: lvCs H (n + 1) r := rfl
theorem lv1_sl (H : Heap) (n es o off len : Nat) : lv1 H n (.sl es o off len) = .sl es n off len := rfl
theorem lv1_ptr (H : Heap) (n o e j : Nat) : lv1 H n (.ptr o e j) = .ptr n e j := rfl
theorem lv1_int (H : Heap) (n : Nat) (k : IntKind) (a : Int) : lv1 H n (.int k a) = .int k a := rfl
theorem lv1_bool (H : Heap) (n : Nat) (b : Bool) : lv1 H n (.bool b) = .bool b := rfl
theorem lv1_str (H : Heap) (n : Nat) (s : ByteArray) : lv1 H n (.str s) = .str s := rfl
theorem lv1_list (H : Heap) (n es : Nat) (xs : Rows) : lv1 H n (.list es xs) = .list es xs := rfl
theorem lv1_nil (H : Heap) (n es : Nat) : lv1 H n (.nil es) = .list es [] := rfl
theorem lendOk_nil (lent : List Nat) (i : Nat) : lendOk lent i [] = true := rfl
theorem lendOk_cons (lent : List Nat) (i : Nat) (v : LV) (r : List LV) : lendOk lent i (v :: r) = (((lent.contains i && (match v with | .fn _ _ => false | _ => true)) || v.noRef) && lendOk lent (i + 1) r) := rfl
theorem lendO_nil (H : Heap) : lendO H [] = some [] := rfl
def lo2 (n : Nat) (x : Rows) : Option Heap → Option Heap
  | some h => some ((n, some x) :: h)
  | none => none
def lo1 (H : Heap) (n : Nat) (r : List (Nat × Nat)) : Option Rows → Option Heap
  | some x => if rowsPlain x then lo2 n x (lendO H r) else none
  | none => none
theorem lendO_cons (H : Heap) (n o : Nat) (r : List (Nat × Nat)) : lendO H ((n, o) :: r) = lo1 H n r (live H o) := by
  simp only [lendO]
  cases live H o with
  | none => rfl
  | some x =>
    simp only [Option.bind_some, lo1]
    split
    · cases lendO H r <;> rfl
    · rfl
theorem lo1_some (H : Heap) (n : Nat) (r : List (Nat × Nat)) (x : Rows) : lo1 H n r (some x) = if rowsPlain x then lo2 n x (lendO H r) else none := rfl
theorem lo2_some (n : Nat) (x : Rows) (h : Heap) : lo2 n x (some h) = some ((n, some x) :: h) := rfl
def la1 (vs : List LV) (nm : List (Nat × Nat)) : Option Heap → Option (List LV × Heap × List (Nat × Nat))
  | some h => some (vs, h, nm)
  | none => none
theorem lendA_eq (H : Heap) (lent : List Nat) (vs : List LV) : lendA H lent vs = if distinct ((lendN lent 0 vs).map (·.2)) && distinct ((lendN lent 0 vs).map (·.1)) then la1 (lendV (killed ((lendN lent 0 vs).map (·.2)) ++ H) lent 0 vs) (lendN lent 0 vs) (lendO H (lendN lent 0 vs)) else none := by
  unfold lendA
  split
  · cases lendO H (lendN lent 0 vs) <;> rfl
  · rfl
theorem la1_some (vs : List LV) (nm : List (Nat × Nat)) (h : Heap) : la1 vs nm (some h) = some (vs, h, nm) := rfl
theorem back_nil (h : Heap) : back [] h = some [] := rfl
def bk2 (o : Nat) (x : Option Rows) : Option Heap → Option Heap
  | some t => some ((o, x) :: t)
  | none => none
def bk1 (o : Nat) (r : List (Nat × Nat)) (h : Heap) : Option (Option Rows) → Option Heap
  | some x => bk2 o x (back r h)
  | none => none
theorem back_cons (n o : Nat) (r : List (Nat × Nat)) (h : Heap) : back ((n, o) :: r) h = bk1 o r h (look h n) := by
  simp only [back]
  cases look h n with
  | none => rfl
  | some x => simp only [Option.bind_some, bk1]; cases back r h <;> rfl
theorem bk1_some (o : Nat) (r : List (Nat × Nat)) (h : Heap) (x : Option Rows) : bk1 o r h (some x) = bk2 o x (back r h) := rfl
theorem bk2_some (o : Nat) (x : Option Rows) (t : Heap) : bk2 o x (some t) = some ((o, x) :: t) := rfl
theorem idx_nat {α : Type} (xs : List α) (k : Nat) : idx xs (k : Int) = xs[k]? := by simp [idx]
theorem idx_map {α β : Type} (f : α → β) (xs : List α) (i : Int) : idx (xs.map f) i = (idx xs i).map f := by
  unfold idx
  split <;> simp
theorem kThen_pair (S : Sig) (b : LC) (s : St) : kThen S b (some (.normal, s)) = runC S b s := rfl
theorem freshAll_nil (H : Heap) : freshAll H [] = true := rfl
theorem freshAll_cons (H : Heap) (n : Nat) (x : Option Rows) (r : Heap) : freshAll H ((n, x) :: r) = (freshN H n && rowsPlain (x.getD []) && freshAll H r) := rfl
theorem pureH_nil : pureH [] = true := rfl
theorem pureH_some (n : Nat) (x : Rows) (r : Heap) : pureH ((n, some x) :: r) = (pureR x && pureH r) := rfl
theorem pureH_none (n : Nat) (r : Heap) : pureH ((n, none) :: r) = pureH r := by simp [pureH]
def rpk4 (env : Env) (H : Heap) (o e j es m len : Nat) (y : Rows) (r : Row) : Option Rows → Option (Ex × St)
  | some z => if m ≠ o ∧ z.length = len ∧ rowsPlain z = true then some (.normal, ⟨env, (o, some (y.set e (splice r j [.arr es z]))) :: (m, none) :: H⟩) else none
  | none => none
def rpk3 (env : Env) (H : Heap) (o e j : Nat) (y : Rows) (r : Row) : Option LV → Option (Ex × St)
  | some (.sl es m 0 len) => rpk4 env H o e j es m len y r (live H m)
  | _ => none
def rpk2 (env : Env) (H : Heap) (o e j : Nat) (y : Rows) : Option Row → Option (Ex × St)
  | some r => rpk3 env H o e j y r r[j]?
  | none => none
def rpk1 (env : Env) (H : Heap) (o e j : Nat) : Option Rows → Option (Ex × St)
  | some y => rpk2 env H o e j y y[e]?
  | none => none
def rpk0 (env : Env) (H : Heap) : LV → Option (Ex × St)
  | .ptr o e j => rpk1 env H o e j (live H o)
  | _ => none
theorem runC_rpk (S : Sig) (x : Opd) (env : Env) (H : Heap) : runC S (.rpk x) ⟨env, H⟩ = rpk0 env H (x.ev env) := by
  simp only [runC]
  cases x.ev env <;> try rfl
  rename_i o e j
  simp only [rpk0]
  cases live H o with
  | none => rfl
  | some y =>
    simp only [Option.bind_some, rpk1]
    cases y[e]? with
    | none => rfl
    | some r =>
      simp only [Option.bind_some, rpk2]
      cases r[j]? with
      | none => rfl
      | some c =>
        simp only [Option.bind_some]
        cases c <;> try rfl
        rename_i es m off len
        cases off with
        | succ => rfl
        | zero => simp only [rpk3]; cases live H m <;> rfl
theorem rpk0_ptr (env : Env) (H : Heap) (o e j : Nat) : rpk0 env H (.ptr o e j) = rpk1 env H o e j (live H o) := rfl
theorem rpk1_some (env : Env) (H : Heap) (o e j : Nat) (y : Rows) : rpk1 env H o e j (some y) = rpk2 env H o e j y y[e]? := rfl
theorem rpk2_some (env : Env) (H : Heap) (o e j : Nat) (y : Rows) (r : Row) : rpk2 env H o e j y (some r) = rpk3 env H o e j y r r[j]? := rfl
theorem rpk3_some (env : Env) (H : Heap) (o e j es m len : Nat) (y : Rows) (r : Row) : rpk3 env H o e j y r (some (.sl es m 0 len)) = rpk4 env H o e j es m len y r (live H m) := rfl
theorem rpk4_some (env : Env) (H : Heap) (o e j es m len : Nat) (y : Rows) (r : Row) (z : Rows) : rpk4 env H o e j es m len y r (some z) = if m ≠ o ∧ z.length = len ∧ rowsPlain z = true then some (.normal, ⟨env, (o, some (y.set e (splice r j [.arr es z]))) :: (m, none) :: H⟩) else none := rfl
def el3 (o e j : Nat) (x : Rows) (r : Row) (u : List LV × Heap) (H : Heap) : Option LV → Option (LV × Heap)
  | some v => some (v, (o, some (x.set e (splice r j u.1))) :: (u.2 ++ H))
  | none => none
def el2 (n : Nat) (ag : Bool) (d o e j : Nat) (H : Heap) (x : Rows) : Option Row → Option (LV × Heap)
  | some r => if j + n ≤ r.length then (if freshAll H (unpackC (d * 1000) ((r.drop j).take n)).2 = true then el3 o e j x r (unpackC (d * 1000) ((r.drop j).take n)) H (cellsVal ag (unpackC (d * 1000) ((r.drop j).take n)).1) else none) else none
  | none => none
def el1 (n : Nat) (ag : Bool) (d o e j : Nat) (H : Heap) : Option Rows → Option (LV × Heap)
  | some x => el2 n ag d o e j H x x[e]?
  | none => none
def el0 (n : Nat) (ag : Bool) (d : Nat) (H : Heap) : LV → Option (LV × Heap)
  | .ptr o e j => el1 n ag d o e j H (live H o)
  | _ => none
theorem evE_eload (S : Sig) (env : Env) (H : Heap) (d n : Nat) (ag : Bool) (x : Opd) : evE S env H d (.eload n ag x) = el0 n ag d H (x.ev env) := by
  simp only [evE]
  cases x.ev env <;> try rfl
  rename_i o e j
  simp only [el0]
  cases live H o with
  | none => rfl
  | some y =>
    simp only [Option.bind_some, el1]
    cases y[e]? with
    | none => rfl
    | some r =>
      simp only [Option.bind_some, el2]
      split
      · split
        · cases cellsVal ag (unpackC (d * 1000) ((r.drop j).take n)).1 <;> rfl
        · rfl
      · rfl
theorem el0_ptr (n : Nat) (ag : Bool) (d : Nat) (H : Heap) (o e j : Nat) : el0 n ag d H (.ptr o e j) = el1 n ag d o e j H (live H o) := rfl
theorem el1_some (n : Nat) (ag : Bool) (d o e j : Nat) (H : Heap) (x : Rows) : el1 n ag d o e j H (some x) = el2 n ag d o e j H x x[e]? := rfl
theorem el2_some (n : Nat) (ag : Bool) (d o e j : Nat) (H : Heap) (x : Rows) (r : Row) : el2 n ag d o e j H x (some r) = if j + n ≤ r.length then (if freshAll H (unpackC (d * 1000) ((r.drop j).take n)).2 = true then el3 o e j x r (unpackC (d * 1000) ((r.drop j).take n)) H (cellsVal ag (unpackC (d * 1000) ((r.drop j).take n)).1) else none) else none := rfl
theorem el3_some (o e j : Nat) (x : Rows) (r : Row) (u : List LV) (g H : Heap) (v : LV) : el3 o e j x r (u, g) H (some v) = some (v, (o, some (x.set e (splice r j u))) :: (g ++ H)) := rfl
def mat1 (sl n : Nat) (env : Env) (H : Heap) : Option LV → Option (Ex × St)
  | some (.nil es) => if freshN H n then some (.normal, ⟨(sl, .sl es n 0 0) :: env, (n, some []) :: H⟩) else none
  | _ => none
theorem runC_mat (S : Sig) (sl n : Nat) (env : Env) (H : Heap) : runC S (.mat sl n) ⟨env, H⟩ = mat1 sl n env H (look env sl) := by
  simp only [runC]
  cases look env sl with
  | none => rfl
  | some v => cases v <;> rfl
theorem mat1_nil (sl n : Nat) (env : Env) (H : Heap) (es : Nat) : mat1 sl n env H (some (.nil es)) = if freshN H n then some (.normal, ⟨(sl, .sl es n 0 0) :: env, (n, some []) :: H⟩) else none := rfl
theorem unpackC_nil (n : Nat) : unpackC n [] = ([], []) := rfl
theorem unpackC_arr (n es : Nat) (xs : Rows) (r : List LV) : unpackC n (.arr es xs :: r) = (.sl es n 0 xs.length :: (unpackC (n + 1) r).1, (n, some xs) :: (unpackC (n + 1) r).2) := rfl
theorem unpackC_int (n : Nat) (k : IntKind) (a : Int) (r : List LV) : unpackC n (.int k a :: r) = (.int k a :: (unpackC (n + 1) r).1, (unpackC (n + 1) r).2) := rfl
theorem unpackC_bool (n : Nat) (b : Bool) (r : List LV) : unpackC n (.bool b :: r) = (.bool b :: (unpackC (n + 1) r).1, (unpackC (n + 1) r).2) := rfl
theorem unpackC_str (n : Nat) (s : ByteArray) (r : List LV) : unpackC n (.str s :: r) = (.str s :: (unpackC (n + 1) r).1, (unpackC (n + 1) r).2) := rfl
theorem unpackC_list (n es : Nat) (xs : Rows) (r : List LV) : unpackC n (.list es xs :: r) = (.list es xs :: (unpackC (n + 1) r).1, (unpackC (n + 1) r).2) := rfl
theorem ex0 : type_of% @runR_nil ∧ type_of% @runR_q ∧ type_of% @kQ_some ∧ type_of% @kQ_ite ∧ type_of% @kQ_none ∧ type_of% @runR_e ∧ type_of% @kE_some ∧ type_of% @kE_some' ∧ type_of% @kE_none ∧ type_of% @runR_ch ∧ type_of% @kCh_true ∧ type_of% @kCh_false ∧ type_of% @kCh_ite ∧ type_of% @kV_some ∧ type_of% @kV_none ∧ type_of% @kV_ite ∧ type_of% @runQ_nil ∧ type_of% @runQ_q ∧ type_of% @kQ1_some ∧ type_of% @kQ1_none ∧ type_of% @kQ1_ite ∧ type_of% @runQ_ch ∧ type_of% @kCh1_true ∧ type_of% @kCh1_false ∧ type_of% @kCh1_ite ∧ type_of% @kV1_some ∧ type_of% @kV1_none ∧ type_of% @kV1_ite ∧ type_of% @runD_nil ∧ type_of% @runD_q ∧ type_of% @kD_some ∧ type_of% @kD_none ∧ type_of% @kD_ite ∧ type_of% @runD_e ∧ type_of% @kDE_some ∧ type_of% @runD_ch ∧ type_of% @kDCh_true ∧ type_of% @kDCh_false ∧ type_of% @kDCh_ite ∧ type_of% @kDV_some ∧ type_of% @kDV_none ∧ type_of% @kDV_ite ∧ type_of% @hD_true ∧ type_of% @hD_false ∧ type_of% @undefs_nil ∧ type_of% @undefs_cons ∧ type_of% @runC_skip ∧ type_of% @runC_reg ∧ type_of% @kReg_some ∧ type_of% @kReg_none ∧ type_of% @kReg_ite ∧ type_of% @runC_regD ∧ type_of% @kRegD_some ∧ type_of% @kRegD_none ∧ type_of% @kRegD_ite ∧ type_of% @runC_seq ∧ type_of% @kThen_normal ∧ type_of% @kThen_exit ∧ type_of% @kThen_ret ∧ type_of% @kThen_none :=
  ⟨@runR_nil, @runR_q, @kQ_some, @kQ_ite, @kQ_none, @runR_e, @kE_some, @kE_some', @kE_none, @runR_ch, @kCh_true, @kCh_false, @kCh_ite, @kV_some, @kV_none, @kV_ite, @runQ_nil, @runQ_q, @kQ1_some, @kQ1_none, @kQ1_ite, @runQ_ch, @kCh1_true, @kCh1_false, @kCh1_ite, @kV1_some, @kV1_none, @kV1_ite, @runD_nil, @runD_q, @kD_some, @kD_none, @kD_ite, @runD_e, @kDE_some, @runD_ch, @kDCh_true, @kDCh_false, @kDCh_ite, @kDV_some, @kDV_none, @kDV_ite, @hD_true, @hD_false, @undefs_nil, @undefs_cons, @runC_skip, @runC_reg, @kReg_some, @kReg_none, @kReg_ite, @runC_regD, @kRegD_some, @kRegD_none, @kRegD_ite, @runC_seq, @kThen_normal, @kThen_exit, @kThen_ret, @kThen_none⟩
theorem ex1 : type_of% @kThen_ite ∧ type_of% @runC_cond ∧ type_of% @kBr_true ∧ type_of% @kBr_false ∧ type_of% @kBr_ite ∧ type_of% @runC_block ∧ type_of% @kBlk_normal ∧ type_of% @kBlk_ret ∧ type_of% @kBlk_exit ∧ type_of% @kBlk_none ∧ type_of% @kBlk_ite ∧ type_of% @runC_loop ∧ type_of% @runC_exit ∧ type_of% @runC_ret ∧ type_of% @runC_keep ∧ type_of% @kKeep_some ∧ type_of% @runC_kp ∧ type_of% @runF_eq ∧ type_of% @kFin_normal ∧ type_of% @kFin_ret ∧ type_of% @kFin_ite ∧ type_of% @qcall_eq ∧ type_of% @kq_some ∧ type_of% @kq_none ∧ type_of% @kq_ite ∧ type_of% @evBin_int ∧ type_of% @evBin_str ∧ type_of% @look_hit ∧ type_of% @ev_t ∧ type_of% @ev_c ∧ type_of% @evQ_mov ∧ type_of% @evQ_bin ∧ type_of% @evQ_shift ∧ type_of% @evQ_eq ∧ type_of% @evQ_eqa ∧ type_of% @evQ_un ∧ type_of% @evQ_len ∧ type_of% @evQ_lenS ∧ type_of% @evQ_conv ∧ type_of% @evQ_ext ∧ type_of% @evQ_field ∧ type_of% @evQ_build ∧ type_of% @evQ_bslice ∧ type_of% @evQ_load ∧ type_of% @evQ_faddr ∧ type_of% @evQ_iaddr ∧ type_of% @evQ_iaddrA ∧ type_of% @evQ_istr ∧ type_of% @evQ_iagg ∧ type_of% @evQ_slice ∧ type_of% @evQ_sliceS ∧ type_of% @evQ_mkfn ∧ type_of% @evQ_max ∧ type_of% @evQ_strB ∧ type_of% @evQ_nilck ∧ type_of% @evQ_call ∧ type_of% @evQ_callv ∧ type_of% @kCallv_fn ∧ type_of% @i_add ∧ type_of% @i_sub :=
  ⟨@kThen_ite, @runC_cond, @kBr_true, @kBr_false, @kBr_ite, @runC_block, @kBlk_normal, @kBlk_ret, @kBlk_exit, @kBlk_none, @kBlk_ite, @runC_loop, @runC_exit, @runC_ret, @runC_keep, @kKeep_some, @runC_kp, @runF_eq, @kFin_normal, @kFin_ret, @kFin_ite, @qcall_eq, @kq_some, @kq_none, @kq_ite, @evBin_int, @evBin_str, @look_hit, @ev_t, @ev_c, @evQ_mov, @evQ_bin, @evQ_shift, @evQ_eq, @evQ_eqa, @evQ_un, @evQ_len, @evQ_lenS, @evQ_conv, @evQ_ext, @evQ_field, @evQ_build, @evQ_bslice, @evQ_load, @evQ_faddr, @evQ_iaddr, @evQ_iaddrA, @evQ_istr, @evQ_iagg, @evQ_slice, @evQ_sliceS, @evQ_mkfn, @evQ_max, @evQ_strB, @evQ_nilck, @evQ_call, @evQ_callv, @kCallv_fn, @i_add, @i_sub⟩
theorem ex2 : type_of% @i_mul ∧ type_of% @i_quo ∧ type_of% @i_rem ∧ type_of% @i_and ∧ type_of% @i_or ∧ type_of% @i_xor ∧ type_of% @i_eql ∧ type_of% @i_neq ∧ type_of% @i_lss ∧ type_of% @i_leq ∧ type_of% @i_gtr ∧ type_of% @i_geq ∧ type_of% @sh_l ∧ type_of% @sh_r ∧ type_of% @s_eql ∧ type_of% @s_neq ∧ type_of% @s_add ∧ type_of% @evEq_f ∧ type_of% @evEq_t ∧ type_of% @evUn_not ∧ type_of% @evUn_neg ∧ type_of% @evLen_list ∧ type_of% @evLen_sl ∧ type_of% @evLen_nil ∧ type_of% @evLenS_str ∧ type_of% @evConv_int ∧ type_of% @evExt_tup ∧ type_of% @evIaddr_list ∧ type_of% @mkPimm_some ∧ type_of% @evIaddr_sl ∧ type_of% @evFaddr_ptr ∧ type_of% @evFaddr_pimm ∧ type_of% @evIstr_str ∧ type_of% @mkInt_some ∧ type_of% @evIagg_eq ∧ type_of% @evLoad_pimm ∧ type_of% @evLoad_ptr ∧ type_of% @ld1_some ∧ type_of% @ld2_some ∧ type_of% @cellsVal_t ∧ type_of% @cellsVal_f ∧ type_of% @optI_none ∧ type_of% @optI_some ∧ type_of% @asI_int ∧ type_of% @evSlice_list ∧ type_of% @evSlice_sl ∧ type_of% @evSliceS_str ∧ type_of% @kSl_some ∧ type_of% @kSlO_some ∧ type_of% @kSlS_some ∧ type_of% @evMaxL_nil ∧ type_of% @evMaxL_cons ∧ type_of% @kMax_some ∧ type_of% @evMax_t ∧ type_of% @evMax_f ∧ type_of% @evStrB_list ∧ type_of% @evStrB_sl ∧ type_of% @kStr_some ∧ type_of% @kStr1_some ∧ type_of% @evNilck_ptr :=
  ⟨@i_mul, @i_quo, @i_rem, @i_and, @i_or, @i_xor, @i_eql, @i_neq, @i_lss, @i_leq, @i_gtr, @i_geq, @sh_l, @sh_r, @s_eql, @s_neq, @s_add, @evEq_f, @evEq_t, @evUn_not, @evUn_neg, @evLen_list, @evLen_sl, @evLen_nil, @evLenS_str, @evConv_int, @evExt_tup, @evIaddr_list, @mkPimm_some, @evIaddr_sl, @evFaddr_ptr, @evFaddr_pimm, @evIstr_str, @mkInt_some, @evIagg_eq, @evLoad_pimm, @evLoad_ptr, @ld1_some, @ld2_some, @cellsVal_t, @cellsVal_f, @optI_none, @optI_some, @asI_int, @evSlice_list, @evSlice_sl, @evSliceS_str, @kSl_some, @kSlO_some, @kSlS_some, @evMaxL_nil, @evMaxL_cons, @kMax_some, @evMax_t, @evMax_f, @evStrB_list, @evStrB_sl, @kStr_some, @kStr1_some, @evNilck_ptr⟩
theorem ex3 : type_of% @evNilck_pimm ∧ type_of% @fillP_nil ∧ type_of% @fillP_cons ∧ type_of% @fill1_some ∧ type_of% @mkAgg_some ∧ type_of% @mkBs_some ∧ type_of% @frz_agg ∧ type_of% @frz_int ∧ type_of% @frz_bool ∧ type_of% @frz_str ∧ type_of% @frz_list ∧ type_of% @frz_nil ∧ type_of% @frz_pimm ∧ type_of% @frz_fn ∧ type_of% @frz_sl ∧ type_of% @frz_ptr ∧ type_of% @frz0_int ∧ type_of% @frz0_bool ∧ type_of% @frz0_str ∧ type_of% @frz0_list ∧ type_of% @frz0_nil ∧ type_of% @frz0_pimm ∧ type_of% @frz0_sl ∧ type_of% @frz0_ptr ∧ type_of% @frzS_some ∧ type_of% @frzO_some ∧ type_of% @frzP_some ∧ type_of% @frzCell_sl ∧ type_of% @frzC_some ∧ type_of% @evE_alloc ∧ type_of% @evE_box ∧ type_of% @kBox_some ∧ type_of% @evE_store ∧ type_of% @kSt_ptr ∧ type_of% @st1_f ∧ type_of% @st1_t ∧ type_of% @stP_some ∧ type_of% @st2_some ∧ type_of% @st3_some ∧ type_of% @evE_bslice ∧ type_of% @kBsE_some ∧ type_of% @kBsl_some ∧ type_of% @evE_mks ∧ type_of% @kMks0_some ∧ type_of% @evE_app ∧ type_of% @app1_nil ∧ type_of% @app1_sl ∧ type_of% @app2_some ∧ type_of% @appSrc_list ∧ type_of% @appSrc_nil ∧ type_of% @appSrc_sl ∧ type_of% @srcO_t ∧ type_of% @srcO_f ∧ type_of% @evE_call ∧ type_of% @ca1_some ∧ type_of% @ca2_some ∧ type_of% @ca2_ite ∧ type_of% @ca3_some ∧ type_of% @packC_nil ∧ type_of% @packC_sl :=
  ⟨@evNilck_pimm, @fillP_nil, @fillP_cons, @fill1_some, @mkAgg_some, @mkBs_some, @frz_agg, @frz_int, @frz_bool, @frz_str, @frz_list, @frz_nil, @frz_pimm, @frz_fn, @frz_sl, @frz_ptr, @frz0_int, @frz0_bool, @frz0_str, @frz0_list, @frz0_nil, @frz0_pimm, @frz0_sl, @frz0_ptr, @frzS_some, @frzO_some, @frzP_some, @frzCell_sl, @frzC_some, @evE_alloc, @evE_box, @kBox_some, @evE_store, @kSt_ptr, @st1_f, @st1_t, @stP_some, @st2_some, @st3_some, @evE_bslice, @kBsE_some, @kBsl_some, @evE_mks, @kMks0_some, @evE_app, @app1_nil, @app1_sl, @app2_some, @appSrc_list, @appSrc_nil, @appSrc_sl, @srcO_t, @srcO_f, @evE_call, @ca1_some, @ca2_some, @ca2_ite, @ca3_some, @packC_nil, @packC_sl⟩
theorem ex4 : type_of% @packO_some ∧ type_of% @packC_list ∧ type_of% @packC_ni ∧ type_of% @packC_int ∧ type_of% @packC_bool ∧ type_of% @packC_str ∧ type_of% @packC_arr ∧ type_of% @packC_undef ∧ type_of% @packK_some ∧ type_of% @outV_agg ∧ type_of% @outV_int ∧ type_of% @outV_bool ∧ type_of% @outV_str ∧ type_of% @outV_list ∧ type_of% @outV_nil ∧ type_of% @outV_sl ∧ type_of% @out1_some ∧ type_of% @outA_some ∧ type_of% @outs_nil ∧ type_of% @outs_cons ∧ type_of% @kOut_some ∧ type_of% @kOuts_some ∧ type_of% @kOut2_some ∧ type_of% @resVal_t ∧ type_of% @resVal_cell ∧ type_of% @enumL_nil ∧ type_of% @enumL_cons ∧ type_of% @dstsL_nil ∧ type_of% @dstsL_cons ∧ type_of% @dsts_q ∧ type_of% @dsts_ch ∧ type_of% @fin_nil ∧ type_of% @fin_cons ∧ type_of% @finL_some ∧ type_of% @finK_some ∧ type_of% @fin1_some ∧ type_of% @fin1_none ∧ type_of% @live_hit ∧ type_of% @keepH_nil ∧ type_of% @keepH_cons ∧ type_of% @kpO_some ∧ type_of% @kpL_some ∧ type_of% @keepE_eq ∧ type_of% @ren_int ∧ type_of% @ren_bool ∧ type_of% @ren_str ∧ type_of% @ren_list ∧ type_of% @ren_nil ∧ type_of% @ren_pimm ∧ type_of% @ren_undef ∧ type_of% @ren_tup ∧ type_of% @ren_agg ∧ type_of% @ren_fn ∧ type_of% @ren_sl ∧ type_of% @ren_ptr ∧ type_of% @ren0_sl ∧ type_of% @ren0_ptr ∧ type_of% @renS_some ∧ type_of% @renP_some ∧ type_of% @ren0_int :=
  ⟨@packO_some, @packC_list, @packC_ni, @packC_int, @packC_bool, @packC_str, @packC_arr, @packC_undef, @packK_some, @outV_agg, @outV_int, @outV_bool, @outV_str, @outV_list, @outV_nil, @outV_sl, @out1_some, @outA_some, @outs_nil, @outs_cons, @kOut_some, @kOuts_some, @kOut2_some, @resVal_t, @resVal_cell, @enumL_nil, @enumL_cons, @dstsL_nil, @dstsL_cons, @dsts_q, @dsts_ch, @fin_nil, @fin_cons, @finL_some, @finK_some, @fin1_some, @fin1_none, @live_hit, @keepH_nil, @keepH_cons, @kpO_some, @kpL_some, @keepE_eq, @ren_int, @ren_bool, @ren_str, @ren_list, @ren_nil, @ren_pimm, @ren_undef, @ren_tup, @ren_agg, @ren_fn, @ren_sl, @ren_ptr, @ren0_sl, @ren0_ptr, @renS_some, @renP_some, @ren0_int⟩
theorem ex5 : type_of% @ren0_bool ∧ type_of% @ren0_str ∧ type_of% @ren0_list ∧ type_of% @ren0_arr ∧ type_of% @ren0_nil ∧ type_of% @ren0_undef ∧ type_of% @ldi_int ∧ type_of% @ldi_bool ∧ type_of% @ldi_str ∧ type_of% @ldi_list ∧ type_of% @ldi_arr ∧ type_of% @ldi_nil ∧ type_of% @ldo_int ∧ type_of% @ldo_bool ∧ type_of% @ldo_str ∧ type_of% @ldo_list ∧ type_of% @ldo_nil ∧ type_of% @ldo_sl ∧ type_of% @ldo_ptr ∧ type_of% @ldo_undef ∧ type_of% @ldo_arr ∧ type_of% @cellsOf_agg ∧ type_of% @cellsOf_int ∧ type_of% @cellsOf_bool ∧ type_of% @cellsOf_str ∧ type_of% @cellsOf_list ∧ type_of% @cellsOf_nil ∧ type_of% @cellsOf_sl ∧ type_of% @cellsOf_ptr ∧ type_of% @impF_int ∧ type_of% @impF_bool ∧ type_of% @impF_str ∧ type_of% @impF_list ∧ type_of% @impF_arr ∧ type_of% @impF_agg ∧ type_of% @impF0_int ∧ type_of% @impF0_bool ∧ type_of% @impF0_str ∧ type_of% @impF0_list ∧ type_of% @impF0_arr ∧ type_of% @pack1_one ∧ type_of% @pack1_two ∧ type_of% @noRef_int ∧ type_of% @noRef_bool ∧ type_of% @noRef_str ∧ type_of% @noRef_list ∧ type_of% @noRef_nil ∧ type_of% @noRef_pimm ∧ type_of% @noRef_sl ∧ type_of% @noRef_ptr ∧ type_of% @noRef_agg ∧ type_of% @noRef_fn ∧ type_of% @noRef0_int ∧ type_of% @noRef0_bool ∧ type_of% @noRef0_str ∧ type_of% @noRef0_list ∧ type_of% @noRef0_nil ∧ type_of% @noRef0_sl ∧ type_of% @noRef0_ptr ∧ type_of% @freshN_eq :=
  ⟨@ren0_bool, @ren0_str, @ren0_list, @ren0_arr, @ren0_nil, @ren0_undef, @ldi_int, @ldi_bool, @ldi_str, @ldi_list, @ldi_arr, @ldi_nil, @ldo_int, @ldo_bool, @ldo_str, @ldo_list, @ldo_nil, @ldo_sl, @ldo_ptr, @ldo_undef, @ldo_arr, @cellsOf_agg, @cellsOf_int, @cellsOf_bool, @cellsOf_str, @cellsOf_list, @cellsOf_nil, @cellsOf_sl, @cellsOf_ptr, @impF_int, @impF_bool, @impF_str, @impF_list, @impF_arr, @impF_agg, @impF0_int, @impF0_bool, @impF0_str, @impF0_list, @impF0_arr, @pack1_one, @pack1_two, @noRef_int, @noRef_bool, @noRef_str, @noRef_list, @noRef_nil, @noRef_pimm, @noRef_sl, @noRef_ptr, @noRef_agg, @noRef_fn, @noRef0_int, @noRef0_bool, @noRef0_str, @noRef0_list, @noRef0_nil, @noRef0_sl, @noRef0_ptr, @freshN_eq⟩
theorem ex6 : type_of% @look_nil ∧ type_of% @live_nil ∧ type_of% @splice_eq ∧ type_of% @chop_zero ∧ type_of% @chop_succ ∧ type_of% @scalar_int ∧ type_of% @scalar_bool ∧ type_of% @scalar_str ∧ type_of% @plain_int ∧ type_of% @plain_bool ∧ type_of% @plain_str ∧ type_of% @plain_arr ∧ type_of% @plain_list ∧ type_of% @plain_nil ∧ type_of% @plain_sl ∧ type_of% @plain_ptr ∧ type_of% @rowsPlain_nil ∧ type_of% @rowsPlain_cons ∧ type_of% @rowsScalar_nil ∧ type_of% @rowsScalar_cons ∧ type_of% @put_some ∧ type_of% @put_none ∧ type_of% @newOk_eq ∧ type_of% @killed_nil ∧ type_of% @killed_cons ∧ type_of% @distinct_nil ∧ type_of% @distinct_cons ∧ type_of% @keepOk_eq ∧ type_of% @vw_all ∧ type_of% @vw_nil ∧ type_of% @impR_nil ∧ type_of% @impR_agg ∧ type_of% @impR_int ∧ type_of% @impR_bool ∧ type_of% @impR_str ∧ type_of% @impR_arr ∧ type_of% @impR_list ∧ type_of% @impC_nil ∧ type_of% @impC_arr ∧ type_of% @impC_int ∧ type_of% @impC_bool ∧ type_of% @impC_str ∧ type_of% @impC_list ∧ type_of% @lendN_nil ∧ type_of% @lendN_cons ∧ type_of% @lendArg_agg ∧ type_of% @lendArg_sl ∧ type_of% @lendArg_ptr ∧ type_of% @lendCs_nil ∧ type_of% @lendCs_cons ∧ type_of% @lend1_sl ∧ type_of% @lend1_ptr ∧ type_of% @lend1_int ∧ type_of% @lend1_bool ∧ type_of% @lend1_str ∧ type_of% @lend1_list ∧ type_of% @lend1_nil ∧ type_of% @lendV_nil ∧ type_of% @lendV_cons ∧ type_of% @lvArg_agg :=
  ⟨@look_nil, @live_nil, @splice_eq, @chop_zero, @chop_succ, @scalar_int, @scalar_bool, @scalar_str, @plain_int, @plain_bool, @plain_str, @plain_arr, @plain_list, @plain_nil, @plain_sl, @plain_ptr, @rowsPlain_nil, @rowsPlain_cons, @rowsScalar_nil, @rowsScalar_cons, @put_some, @put_none, @newOk_eq, @killed_nil, @killed_cons, @distinct_nil, @distinct_cons, @keepOk_eq, @vw_all, @vw_nil, @impR_nil, @impR_agg, @impR_int, @impR_bool, @impR_str, @impR_arr, @impR_list, @impC_nil, @impC_arr, @impC_int, @impC_bool, @impC_str, @impC_list, @lendN_nil, @lendN_cons, @lendArg_agg, @lendArg_sl, @lendArg_ptr, @lendCs_nil, @lendCs_cons, @lend1_sl, @lend1_ptr, @lend1_int, @lend1_bool, @lend1_str, @lend1_list, @lend1_nil, @lendV_nil, @lendV_cons, @lvArg_agg⟩
theorem ex7 : type_of% @lvArg_sl ∧ type_of% @lvArg_ptr ∧ type_of% @lvCs_nil ∧ type_of% @lvCs_cons ∧ type_of% @lv1_sl ∧ type_of% @lv1_ptr ∧ type_of% @lv1_int ∧ type_of% @lv1_bool ∧ type_of% @lv1_str ∧ type_of% @lv1_list ∧ type_of% @lv1_nil ∧ type_of% @lendOk_nil ∧ type_of% @lendOk_cons ∧ type_of% @lendO_nil ∧ type_of% @lendO_cons ∧ type_of% @lo1_some ∧ type_of% @lo2_some ∧ type_of% @lendA_eq ∧ type_of% @la1_some ∧ type_of% @back_nil ∧ type_of% @back_cons ∧ type_of% @bk1_some ∧ type_of% @bk2_some ∧ type_of% @idx_nat ∧ type_of% @idx_map ∧ type_of% @freshAll_nil ∧ type_of% @freshAll_cons ∧ type_of% @pureH_nil ∧ type_of% @pureH_some ∧ type_of% @pureH_none ∧ type_of% @runC_rpk ∧ type_of% @rpk0_ptr ∧ type_of% @rpk1_some ∧ type_of% @rpk2_some ∧ type_of% @rpk3_some ∧ type_of% @rpk4_some ∧ type_of% @evE_eload ∧ type_of% @el0_ptr ∧ type_of% @el1_some ∧ type_of% @el2_some ∧ type_of% @el3_some ∧ type_of% @runC_mat ∧ type_of% @mat1_nil ∧ type_of% @unpackC_nil ∧ type_of% @unpackC_arr ∧ type_of% @unpackC_int ∧ type_of% @unpackC_bool ∧ type_of% @unpackC_str ∧ type_of% @unpackC_list :=
  ⟨@lvArg_sl, @lvArg_ptr, @lvCs_nil, @lvCs_cons, @lv1_sl, @lv1_ptr, @lv1_int, @lv1_bool, @lv1_str, @lv1_list, @lv1_nil, @lendOk_nil, @lendOk_cons, @lendO_nil, @lendO_cons, @lo1_some, @lo2_some, @lendA_eq, @la1_some, @back_nil, @back_cons, @bk1_some, @bk2_some, @idx_nat, @idx_map, @freshAll_nil, @freshAll_cons, @pureH_nil, @pureH_some, @pureH_none, @runC_rpk, @rpk0_ptr, @rpk1_some, @rpk2_some, @rpk3_some, @rpk4_some, @evE_eload, @el0_ptr, @el1_some, @el2_some, @el3_some, @runC_mat, @mat1_nil, @unpackC_nil, @unpackC_arr, @unpackC_int, @unpackC_bool, @unpackC_str, @unpackC_list⟩
end Go.Lev
