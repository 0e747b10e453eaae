/- Equations of the operations, for working out runs. -/
import Derived.Test.YtahjhlnhkoifhaaGreatZQ
set_option linter.unusedVariables false
set_option linter.unusedSimpArgs false
namespace Go.Lev

def mkPimm : Option Row → Option LV
  | some r => some (.pimm r)
  | none => none
def mkInt (k : IntKind) : Option UInt8 → Option LV
  | some b => some (.int k b.toNat)
  | none => none
def ld2 (n : Nat) (ag : Bool) (j : Nat) : Option Row → Option LV
  | some r => if j + n ≤ r.length then cellsVal ag (((r.drop j).take n).map ldo) else none
  | none => none
def ld1 (n : Nat) (ag : Bool) (e j : Nat) : Option Rows → Option LV
  | some x => ld2 n ag j x[e]?
  | none => none
def kStr : Option (List Int) → Option LV
  | some ns => some (.str (strOf ns))
  | none => none
def kStr1 (off len : Nat) : Option Rows → Option LV
  | some x => kStr (bytesOf (vw x off len))
  | none => none
def frzS (es off len : Nat) : Option Rows → LV
  | some x => .list es (vw x off len)
  | none => .undef
def frzP (j : Nat) (H : Heap) : Option Row → LV
  | some r => .pimm ((r.drop j).map (frzCell H))
  | none => .undef
def frzO (e j : Nat) (H : Heap) : Option Rows → LV
  | some x => frzP j H x[e]?
  | none => .undef
def frzC (es off len : Nat) : Option Rows → LV
  | some x => .arr es (vw x off len)
  | none => .undef
def fill1 (env : Env) (z : Row) (off n : Nat) (r : List (Nat × Nat × Opd)) : Option (List LV) → Option Row
  | some cs => if cs.length = n ∧ off + n ≤ z.length then fillP env (splice z off cs) r else none
  | none => none
def mkAgg : Option Row → Option LV
  | some r => some (.agg r)
  | none => none
def mkBs (esz : Nat) : Option Row → Option LV
  | some r => if r.all LV.scalar ∧ 0 < esz then some (.list esz (chop esz (r.length / esz) r)) else none
  | none => none
def kSl (es : Nat) (xs : Rows) : Option Int → Option Int → Option LV
  | some l, some h => if 0 ≤ l ∧ l ≤ h ∧ h ≤ xs.length then some (.list es (vw xs l.toNat (h - l).toNat)) else none
  | _, _ => none
def kSlO (es o off len : Nat) : Option Int → Option Int → Option LV
  | some l, some h => if 0 ≤ l ∧ l ≤ h ∧ h ≤ len then some (.sl es o (off + l.toNat) (h - l).toNat) else none
  | _, _ => none
def kSlS (s : ByteArray) : Option Int → Option Int → Option LV
  | some l, some h => if 0 ≤ l ∧ l ≤ h ∧ h ≤ s.size then some (.str (s.extract l.toNat h.toNat)) else none
  | _, _ => none
def kMax (mx : Bool) (r : List LV) : Option LV → Option LV
  | some y => evMaxL mx y r
  | none => none
/-! effects -/
def kBox (n d : Nat) (H : Heap) : Option (List LV) → Option (LV × Heap)
  | some cs => if freshN H (d * 1000) = true ∧ cs.length = n then some (.ptr (d * 1000) 0 0, (d * 1000, some [cs]) :: H) else none
  | none => none
def st3 (o e j n : Nat) (x : Rows) (cs : List LV) (H : Heap) : Option Row → Option (LV × Heap)
  | some r => if j + n ≤ r.length then some (.undef, (o, some (x.set e (splice r j cs))) :: H) else none
  | none => none
def st2 (o e j n : Nat) (cs : List LV) (H : Heap) : Option Rows → Option (LV × Heap)
  | some x => st3 o e j n x cs H x[e]?
  | none => none
def stP (o e j n : Nat) (H : Heap) : Option (List LV × Heap) → Option (LV × Heap)
  | some p => st2 o e j n p.1 (p.2 ++ H) (live (p.2 ++ H) o)
  | none => none
def st1 (o e j n : Nat) (pk : Bool) (H : Heap) : Option (List LV) → Option (LV × Heap)
  | some cs => if cs.length = n then (if pk then stP o e j n H (packC H cs) else st2 o e j n cs H (live H o)) else none
  | none => none
def kBsl (esz d : Nat) (H : Heap) (n : Nat) : Option (List LV × Heap) → Option (LV × Heap)
  | some p => some (.sl esz (d * 1000) 0 (n / esz), (d * 1000, some (chop esz (n / esz) p.1)) :: (p.2 ++ H))
  | none => none
def kBsE (esz d : Nat) (H : Heap) : Option Row → Option (LV × Heap)
  | some r => if 0 < esz ∧ freshN H (d * 1000) then kBsl esz d H r.length (packC H r) else none
  | none => none
def kMks (z : Row) (bytes d : Nat) (H : Heap) (n c : Int) : Option (LV × Heap) :=
  if 0 ≤ n ∧ n = c ∧ n * bytes ≤ 140737488355328 ∧ 0 < z.length ∧ freshN H (d * 1000) then some (.sl z.length (d * 1000) 0 n.toNat, (d * 1000, some (List.replicate n.toNat z)) :: H) else none
def app2 (esz bytes d off len : Nat) (o : Nat) (src : Rows × Heap) (H : Heap) : Option Rows → Option (LV × Heap)
  | some x => if off + len = x.length ∧ (len + src.1.length) * bytes ≤ 140737488355328 then some (.sl esz (d * 1000) 0 (len + src.1.length), (d * 1000, some (vw x off len ++ src.1)) :: (o, none) :: (src.2 ++ H)) else none
  | none => none
def app1 (esz bytes d : Nat) (x : LV) (H : Heap) : Option (Rows × Heap) → Option (LV × Heap)
  | some src => if freshN H (d * 1000) then
      match x with
      | .nil _ => if src.1.length * bytes ≤ 140737488355328 then some (.sl esz (d * 1000) 0 src.1.length, (d * 1000, some src.1) :: (src.2 ++ H)) else none
      | .sl es o off len => if es = esz then app2 esz bytes d off len o src H (live (src.2 ++ H) o) else none
      | _ => none
      else none
  | none => none
def srcO (mv : Bool) (o off len : Nat) : Option Rows → Option (Rows × Heap)
  | some y => if mv then (if rowsPlain y then some (vw y off len, [(o, none)]) else none) else (if rowsScalar y then some (vw y off len, []) else none)
  | none => none
def ca3 (ok : Bool) (d : Nat) (H : Heap) (r : List LV) : Option Heap → Option (LV × Heap)
  | some hb => if freshAll H (impR ok (d * 1000) r).2 = true ∧ distinct ((impR ok (d * 1000) r).2.map (·.1)) = true ∧ (ok || (pureH (impR ok (d * 1000) r).2 && pureH hb)) = true then
      some (pack1 (impR ok (d * 1000) r).1, (impR ok (d * 1000) r).2 ++ (hb ++ H)) else none
  | none => none
def ca2 (ok : Bool) (d : Nat) (H : Heap) (nm : List (Nat × Nat)) : Option (List LV × Heap) → Option (LV × Heap)
  | some r => ca3 ok d H r.1 (back nm r.2)
  | none => none
def ca1 (S : Sig) (f : Nat) (ok : Bool) (d : Nat) (H : Heap) : Option (List LV × Heap × List (Nat × Nat)) → Option (LV × Heap)
  | some p => ca2 ok d H p.2.2 (S f p.1 p.2.1)
  | none => none
def packK (x : LV) (h : Heap) : Option (List LV × Heap) → Option (List LV × Heap)
  | some p => some (x :: p.1, h ++ p.2)
  | none => none
def packO (H : Heap) (es o off len : Nat) (r : List LV) : Option Rows → Option (List LV × Heap)
  | some x => if rowsPlain x then packK (.arr es (vw x off len)) [(o, none)] (packC ((o, none) :: H) r) else none
  | none => none

section
variable (S : Sig) (env : Env) (H : Heap)
theorem evQ_mov (x : Opd) : evQ S env H (.mov x) = some (x.ev env) := rfl
theorem evQ_bin (op : BinOp) (x y : Opd) : evQ S env H (.bin op x y) = evBin op (x.ev env) (y.ev env) := rfl
theorem evQ_shift (op : BinOp) (x y : Opd) : evQ S env H (.shift op x y) = evShift op (x.ev env) (y.ev env) := rfl
theorem evQ_eq (n : Bool) (x y : Opd) : evQ S env H (.eq n x y) = evEq n (x.ev env) (y.ev env) := rfl
theorem evQ_eqa (n : Bool) (ks : List Nat) (x y : Opd) : evQ S env H (.eqa n ks x y) = evEqA n ks (x.ev env) (y.ev env) := rfl
theorem evQ_un (op : UnOp) (x : Opd) : evQ S env H (.un op x) = evUn op (x.ev env) := rfl
theorem evQ_len (x : Opd) : evQ S env H (.len x) = evLen (x.ev env) := rfl
theorem evQ_lenS (x : Opd) : evQ S env H (.lenS x) = evLenS (x.ev env) := rfl
theorem evQ_conv (k : IntKind) (x : Opd) : evQ S env H (.conv k x) = evConv k (x.ev env) := rfl
theorem evQ_ext (x : Opd) (i : Nat) : evQ S env H (.ext x i) = evExt i (x.ev env) := rfl
theorem evQ_field (off n : Nat) (ag : Bool) (x : Opd) : evQ S env H (.field off n ag x) = evField off n ag (x.ev env) := rfl
theorem evQ_build (z : Row) (ps : List (Nat × Nat × Opd)) : evQ S env H (.build z ps) = mkAgg (fillP env z ps) := by simp only [evQ]; cases fillP env z ps <;> rfl
theorem evQ_bslice (esz : Nat) (z : Row) (ps : List (Nat × Nat × Opd)) : evQ S env H (.bslice esz z ps) = mkBs esz (fillP env z ps) := by simp only [evQ]; cases fillP env z ps <;> rfl
theorem evQ_load (n : Nat) (ag : Bool) (x : Opd) : evQ S env H (.load n ag x) = evLoad n ag H (x.ev env) := rfl
theorem evQ_faddr (off : Nat) (x : Opd) : evQ S env H (.faddr off x) = evFaddr off (x.ev env) := rfl
theorem evQ_iaddr (esz : Nat) (x i : Opd) : evQ S env H (.iaddr esz x i) = evIaddr esz (x.ev env) (i.ev env) := rfl
theorem evQ_iaddrA (esz len : Nat) (x i : Opd) : evQ S env H (.iaddrA esz len x i) = evIaddrA esz len (x.ev env) (i.ev env) := rfl
theorem evQ_istr (x i : Opd) : evQ S env H (.istr x i) = evIstr (x.ev env) (i.ev env) := rfl
theorem evQ_iagg (esz len : Nat) (ag : Bool) (x i : Opd) : evQ S env H (.iagg esz len ag x i) = evIagg esz len ag (x.ev env) (i.ev env) := rfl
theorem evQ_slice (esz : Nat) (x : Opd) (lo hi : Option Opd) : evQ S env H (.slice esz x lo hi) = evSlice esz (optI env 0 lo) (optI env (lenOf (x.ev env)) hi) (x.ev env) := rfl
theorem evQ_sliceS (x : Opd) (lo hi : Option Opd) : evQ S env H (.sliceS x lo hi) = evSliceS (optI env 0 lo) (optI env (lenOf (x.ev env)) hi) (x.ev env) := rfl
theorem evQ_mkfn (f : Nat) (caps : List Opd) : evQ S env H (.mkfn f caps) = some (.fn f (caps.map (Opd.ev env))) := rfl
theorem evQ_max (mx : Bool) (x : Opd) (r : List Opd) : evQ S env H (.max mx (x :: r)) = evMaxL mx (x.ev env) (r.map (Opd.ev env)) := rfl
theorem evQ_strB (x : Opd) : evQ S env H (.strB x) = evStrB H (x.ev env) := rfl
theorem evQ_nilck (x : Opd) : evQ S env H (.nilck x) = evNilck (x.ev env) := rfl
theorem evQ_call (f : Nat) (args : List Opd) : evQ S env H (.call f args) = qcall S f H (args.map (Opd.ev env)) := rfl
def kCallv (S : Sig) (H : Heap) (vs : List LV) : LV → Option LV
  | .fn f caps => qcall S f H (vs ++ caps)
  | _ => none
theorem evQ_callv (x : Opd) (args : List Opd) : evQ S env H (.callv x args) = kCallv S H (args.map (Opd.ev env)) (x.ev env) := by
  simp only [evQ]
  cases x.ev env <;> rfl
theorem kCallv_fn (vs : List LV) (f : Nat) (caps : List LV) : kCallv S H vs (.fn f caps) = qcall S f H (vs ++ caps) := rfl

theorem i_add (k : IntKind) (a b : Int) : intBin .add k a b = some (.int k (k.wrap (a + b))) := rfl
theorem i_sub (k : IntKind) (a b : Int) : intBin .sub k a b = some (.int k (k.wrap (a - b))) := rfl
theorem i_mul (k : IntKind) (a b : Int) : intBin .mul k a b = some (.int k (k.wrap (a * b))) := rfl
theorem i_quo (k : IntKind) (a b : Int) : intBin .quo k a b = if b = 0 then none else some (.int k (k.wrap (a.tdiv b))) := rfl
theorem i_rem (k : IntKind) (a b : Int) : intBin .rem k a b = if b = 0 then none else some (.int k (a.tmod b)) := rfl
theorem i_and (k : IntKind) (a b : Int) : intBin .and k a b = some (.int k (k.wrap (BitVec.ofInt k.bits a &&& BitVec.ofInt k.bits b).toNat)) := rfl
theorem i_or (k : IntKind) (a b : Int) : intBin .or k a b = some (.int k (k.wrap (BitVec.ofInt k.bits a ||| BitVec.ofInt k.bits b).toNat)) := rfl
theorem i_xor (k : IntKind) (a b : Int) : intBin .xor k a b = some (.int k (k.wrap (BitVec.ofInt k.bits a ^^^ BitVec.ofInt k.bits b).toNat)) := rfl
theorem i_eql (k : IntKind) (a b : Int) : intBin .eql k a b = some (.bool (decide (a = b))) := rfl
theorem i_neq (k : IntKind) (a b : Int) : intBin .neq k a b = some (.bool (!decide (a = b))) := rfl
theorem i_lss (k : IntKind) (a b : Int) : intBin .lss k a b = some (.bool (decide (a < b))) := rfl
theorem i_leq (k : IntKind) (a b : Int) : intBin .leq k a b = some (.bool (decide (a ≤ b))) := rfl
theorem i_gtr (k : IntKind) (a b : Int) : intBin .gtr k a b = some (.bool (decide (b < a))) := rfl
theorem i_geq (k : IntKind) (a b : Int) : intBin .geq k a b = some (.bool (decide (b ≤ a))) := rfl
theorem sh_l (k k' : IntKind) (x y : Int) : evShift .shl (.int k x) (.int k' y) = if y < 0 then none else some (.int k (k.wrap (x * 2 ^ (min y.toNat k.bits)))) := rfl
theorem sh_r (k k' : IntKind) (x y : Int) : evShift .shr (.int k x) (.int k' y) = if y < 0 then none else some (.int k (x.fdiv (2 ^ (min y.toNat k.bits)))) := rfl
theorem s_eql (a b : ByteArray) : strBin .eql a b = some (.bool (strEq a b)) := rfl
theorem s_neq (a b : ByteArray) : strBin .neq a b = some (.bool (!strEq a b)) := rfl
theorem s_add (a b : ByteArray) : strBin .add a b = if a.size + b.size ≤ 9223372036854775807 then some (.str (a ++ b)) else none := rfl
theorem evEq_f (a b : Bool) : evEq false (.bool a) (.bool b) = some (.bool (a == b)) := rfl
theorem evEq_t (a b : Bool) : evEq true (.bool a) (.bool b) = some (.bool (!(a == b))) := rfl
theorem evUn_not (b : Bool) : evUn .not (.bool b) = some (.bool (!b)) := rfl
theorem evUn_neg (k : IntKind) (n : Int) : evUn .neg (.int k n) = some (.int k (k.wrap (0 - n))) := rfl
theorem evLen_list (es : Nat) (xs : Rows) : evLen (.list es xs) = some (.int .i64 xs.length) := rfl
theorem evLen_sl (es o off len : Nat) : evLen (.sl es o off len) = some (.int .i64 len) := rfl
theorem evLen_nil (es : Nat) : evLen (.nil es) = some (.int .i64 0) := rfl
theorem evLenS_str (s : ByteArray) : evLenS (.str s) = some (.int .i64 s.size) := rfl
theorem evConv_int (k k' : IntKind) (n : Int) : evConv k (.int k' n) = some (.int k (k.wrap n)) := rfl
theorem evExt_tup (vs : List LV) (i : Nat) : evExt i (.tup vs) = vs[i]? := rfl
theorem evIaddr_list (es : Nat) (xs : Rows) (k : IntKind) (i : Int) : evIaddr es (.list es xs) (.int k i) = mkPimm (idx xs i) := by
  simp only [evIaddr, if_true]
  cases idx xs i <;> rfl
theorem mkPimm_some (r : Row) : mkPimm (some r) = some (.pimm r) := rfl
theorem evIaddr_sl (es o off len : Nat) (k : IntKind) (i : Int) : evIaddr es (.sl es o off len) (.int k i) = if 0 ≤ i ∧ i < len then some (.ptr o (off + i.toNat) 0) else none := by simp [evIaddr]
theorem evFaddr_ptr (off o e j : Nat) : evFaddr off (.ptr o e j) = some (.ptr o e (j + off)) := rfl
theorem evFaddr_pimm (off : Nat) (cs : List LV) : evFaddr off (.pimm cs) = if off < cs.length then some (.pimm (cs.drop off)) else none := rfl
theorem evIstr_str (s : ByteArray) (k : IntKind) (i : Int) : evIstr (.str s) (.int k i) = if 0 ≤ i then mkInt .u8 s.data[i.toNat]? else none := by
  simp only [evIstr]
  split
  · cases s.data[i.toNat]? <;> rfl
  · rfl
theorem mkInt_some (k : IntKind) (b : UInt8) : mkInt k (some b) = some (.int k b.toNat) := rfl
theorem evIagg_eq (esz len : Nat) (ag : Bool) (cs : List LV) (k : IntKind) (i : Int) : evIagg esz len ag (.agg cs) (.int k i) = if 0 ≤ i ∧ i < len ∧ len * esz ≤ cs.length then (if ag then some (.agg ((cs.drop (i.toNat * esz)).take esz)) else cs[i.toNat * esz]?) else none := rfl
theorem evLoad_pimm (n : Nat) (ag : Bool) (cs : List LV) : evLoad n ag H (.pimm cs) = if n ≤ cs.length then cellsVal ag ((cs.take n).map ldi) else none := rfl
theorem evLoad_ptr (n : Nat) (ag : Bool) (o e j : Nat) : evLoad n ag H (.ptr o e j) = ld1 n ag e j (live H o) := by
  simp only [evLoad]
  cases live H o with
  | none => rfl
  | some x => simp only [Option.bind_some, ld1]; cases x[e]? <;> rfl
theorem ld1_some (n : Nat) (ag : Bool) (e j : Nat) (x : Rows) : ld1 n ag e j (some x) = ld2 n ag j x[e]? := rfl
theorem ld2_some (n : Nat) (ag : Bool) (j : Nat) (r : Row) : ld2 n ag j (some r) = if j + n ≤ r.length then cellsVal ag (((r.drop j).take n).map ldo) else none := rfl
theorem cellsVal_t (cs : List LV) : cellsVal true cs = some (.agg cs) := rfl
theorem cellsVal_f (cs : List LV) : cellsVal false cs = cs[0]? := rfl
theorem optI_none (d : Int) : optI env d none = some d := rfl
theorem optI_some (d : Int) (x : Opd) : optI env d (some x) = asI (x.ev env) := rfl
theorem asI_int (k : IntKind) (n : Int) : asI (.int k n) = some n := rfl
theorem evSlice_list (es : Nat) (xs : Rows) (lo hi : Option Int) : evSlice es lo hi (.list es xs) = kSl es xs lo hi := by
  simp only [evSlice]
  cases lo <;> cases hi <;> simp [kSl]
theorem evSlice_sl (es o off len : Nat) (lo hi : Option Int) : evSlice es lo hi (.sl es o off len) = kSlO es o off len lo hi := by
  simp only [evSlice]
  cases lo <;> cases hi <;> simp [kSlO]
theorem evSliceS_str (s : ByteArray) (lo hi : Option Int) : evSliceS lo hi (.str s) = kSlS s lo hi := by
  simp only [evSliceS]
  cases lo <;> cases hi <;> rfl
theorem kSl_some (es : Nat) (xs : Rows) (l h : Int) : kSl es xs (some l) (some h) = if 0 ≤ l ∧ l ≤ h ∧ h ≤ xs.length then some (.list es (vw xs l.toNat (h - l).toNat)) else none := rfl
theorem kSlO_some (es o off len : Nat) (l h : Int) : kSlO es o off len (some l) (some h) = if 0 ≤ l ∧ l ≤ h ∧ h ≤ len then some (.sl es o (off + l.toNat) (h - l).toNat) else none := rfl
theorem kSlS_some (s : ByteArray) (l h : Int) : kSlS s (some l) (some h) = if 0 ≤ l ∧ l ≤ h ∧ h ≤ s.size then some (.str (s.extract l.toNat h.toNat)) else none := rfl
theorem evMaxL_nil (mx : Bool) (v : LV) : evMaxL mx v [] = some v := rfl
theorem evMaxL_cons (mx : Bool) (v x : LV) (r : List LV) : evMaxL mx v (x :: r) = kMax mx r (evMax mx v x) := by
  simp only [evMaxL]; cases evMax mx v x <;> rfl
theorem kMax_some (mx : Bool) (r : List LV) (y : LV) : kMax mx r (some y) = evMaxL mx y r := rfl
theorem evMax_t (k k' : IntKind) (a b : Int) : evMax true (.int k a) (.int k' b) = some (.int k (if a < b then b else a)) := rfl
theorem evMax_f (k k' : IntKind) (a b : Int) : evMax false (.int k a) (.int k' b) = some (.int k (if b < a then b else a)) := rfl
theorem evStrB_list (xs : Rows) : evStrB H (.list 1 xs) = kStr (bytesOf xs) := by
  simp only [evStrB, if_true]; cases bytesOf xs <;> rfl
theorem evStrB_sl (o off len : Nat) : evStrB H (.sl 1 o off len) = kStr1 off len (live H o) := by
  simp only [evStrB, if_true]
  cases live H o with
  | none => rfl
  | some x => simp only [Option.bind_some, kStr1]; cases bytesOf (vw x off len) <;> rfl
theorem kStr_some (ns : List Int) : kStr (some ns) = some (.str (strOf ns)) := rfl
theorem kStr1_some (off len : Nat) (x : Rows) : kStr1 off len (some x) = kStr (bytesOf (vw x off len)) := rfl
theorem evNilck_ptr (o e j : Nat) : evNilck (.ptr o e j) = some (.ptr o e j) := rfl
theorem evNilck_pimm (cs : List LV) : evNilck (.pimm cs) = some (.pimm cs) := rfl
theorem fillP_nil (z : Row) : fillP env z [] = some z := rfl
theorem fillP_cons (z : Row) (off n : Nat) (x : Opd) (r : List (Nat × Nat × Opd)) : fillP env z ((off, n, x) :: r) = fill1 env z off n r (cellsOf (x.ev env)) := by
  simp only [fillP]; cases cellsOf (x.ev env) <;> rfl
theorem fill1_some (z : Row) (off n : Nat) (r : List (Nat × Nat × Opd)) (cs : List LV) : fill1 env z off n r (some cs) = if cs.length = n ∧ off + n ≤ z.length then fillP env (splice z off cs) r else none := rfl
theorem mkAgg_some (r : Row) : mkAgg (some r) = some (.agg r) := rfl
theorem mkBs_some (esz : Nat) (r : Row) : mkBs esz (some r) = if r.all LV.scalar ∧ 0 < esz then some (.list esz (chop esz (r.length / esz) r)) else none := rfl

/-! freezing -/
theorem frz_agg (cs : List LV) : frz H (.agg cs) = .agg (cs.map (frz0 H)) := rfl
theorem frz_int (k : IntKind) (n : Int) : frz H (.int k n) = .int k n := rfl
theorem frz_bool (b : Bool) : frz H (.bool b) = .bool b := rfl
theorem frz_str (s : ByteArray) : frz H (.str s) = .str s := rfl
theorem frz_list (es : Nat) (xs : Rows) : frz H (.list es xs) = .list es xs := rfl
theorem frz_nil (es : Nat) : frz H (.nil es) = .list es [] := rfl
theorem frz_pimm (cs : List LV) : frz H (.pimm cs) = .pimm cs := rfl
theorem frz_fn (f : Nat) (cs : List LV) : frz H (.fn f cs) = .fn f (cs.map (frz0 H)) := rfl
theorem frz_sl (es o off len : Nat) : frz H (.sl es o off len) = frzS es off len (live H o) := by
  simp only [frz, frz0]; cases live H o <;> rfl
theorem frz_ptr (o e j : Nat) : frz H (.ptr o e j) = frzO e j H (live H o) := by
  simp only [frz, frz0]
  cases live H o with
  | none => rfl
  | some x => simp only [frzO]; cases x[e]? <;> rfl
theorem frz0_int (k : IntKind) (n : Int) : frz0 H (.int k n) = .int k n := rfl
theorem frz0_bool (b : Bool) : frz0 H (.bool b) = .bool b := rfl
theorem frz0_str (s : ByteArray) : frz0 H (.str s) = .str s := rfl
theorem frz0_list (es : Nat) (xs : Rows) : frz0 H (.list es xs) = .list es xs := rfl
theorem frz0_nil (es : Nat) : frz0 H (.nil es) = .list es [] := rfl
theorem frz0_pimm (cs : List LV) : frz0 H (.pimm cs) = .pimm cs := rfl
theorem frz0_sl (es o off len : Nat) : frz0 H (.sl es o off len) = frzS es off len (live H o) := by
  simp only [frz0]; cases live H o <;> rfl
theorem frz0_ptr (o e j : Nat) : frz0 H (.ptr o e j) = frzO e j H (live H o) := by
  simp only [frz0]
  cases live H o with
  | none => rfl
  | some x => simp only [frzO]; cases x[e]? <;> rfl
theorem frzS_some (es off len : Nat) (x : Rows) : frzS es off len (some x) = .list es (vw x off len) := rfl
theorem frzO_some (e j : Nat) (x : Rows) : frzO e j H (some x) = frzP j H x[e]? := rfl
theorem frzP_some (j : Nat) (r : Row) : frzP j H (some r) = .pimm ((r.drop j).map (frzCell H)) := rfl
theorem frzCell_sl (es o off len : Nat) : frzCell H (.sl es o off len) = frzC es off len (live H o) := by
  simp only [frzCell]; cases live H o <;> rfl
theorem frzC_some (es off len : Nat) (x : Rows) : frzC es off len (some x) = .arr es (vw x off len) := rfl

/-! effects -/
theorem evE_alloc (d : Nat) (z : Row) : evE S env H d (.alloc z) = if freshN H (d * 1000) = true ∧ z ≠ [] then some (.ptr (d * 1000) 0 0, (d * 1000, some [z]) :: H) else none := rfl
theorem evE_box (d n : Nat) (x : Opd) : evE S env H d (.box n x) = kBox n d H (cellsOf (x.ev env)) := by
  simp only [evE]; cases cellsOf (x.ev env) <;> rfl
theorem kBox_some (n d : Nat) (cs : List LV) : kBox n d H (some cs) = if freshN H (d * 1000) = true ∧ cs.length = n then some (.ptr (d * 1000) 0 0, (d * 1000, some [cs]) :: H) else none := rfl
def kSt (env : Env) (H : Heap) (n : Nat) (pk : Bool) (v : Opd) : LV → Option (LV × Heap)
  | .ptr o e j => st1 o e j n pk H (cellsOf (v.ev env))
  | _ => none
theorem evE_store (d n : Nat) (pk : Bool) (x v : Opd) : evE S env H d (.store n pk x v) = kSt env H n pk v (x.ev env) := by
  simp only [evE]
  cases x.ev env <;> try rfl
  rename_i o e j
  simp only [kSt]
  cases cellsOf (v.ev env) with
  | none => rfl
  | some cs =>
    simp only [Option.bind_some, st1]
    split
    · cases pk
      · simp only [Bool.false_eq_true, if_false]
        cases live H o with
        | none => rfl
        | some x => simp only [Option.bind_some, st2]; cases x[e]? <;> rfl
      · simp only [if_true]
        cases packC H cs with
        | none => rfl
        | some p =>
          simp only [Option.bind_some, stP]
          cases live (p.2 ++ H) o with
          | none => rfl
          | some x => simp only [Option.bind_some, st2]; cases x[e]? <;> rfl
    · rfl
theorem kSt_ptr (n : Nat) (pk : Bool) (v : Opd) (o e j : Nat) : kSt env H n pk v (.ptr o e j) = st1 o e j n pk H (cellsOf (v.ev env)) := rfl
theorem st1_f (o e j n : Nat) (cs : List LV) : st1 o e j n false H (some cs) = if cs.length = n then st2 o e j n cs H (live H o) else none := by simp [st1]
theorem st1_t (o e j n : Nat) (cs : List LV) : st1 o e j n true H (some cs) = if cs.length = n then stP o e j n H (packC H cs) else none := by simp [st1]
theorem stP_some (o e j n : Nat) (cs : List LV) (h : Heap) : stP o e j n H (some (cs, h)) = st2 o e j n cs (h ++ H) (live (h ++ H) o) := rfl
theorem st2_some (o e j n : Nat) (cs : List LV) (x : Rows) : st2 o e j n cs H (some x) = st3 o e j n x cs H x[e]? := rfl
theorem st3_some (o e j n : Nat) (x : Rows) (cs : List LV) (r : Row) : st3 o e j n x cs H (some r) = if j + n ≤ r.length then some (.undef, (o, some (x.set e (splice r j cs))) :: H) else none := rfl
theorem evE_bslice (d esz : Nat) (z : Row) (ps : List (Nat × Nat × Opd)) : evE S env H d (.bslice esz z ps) = kBsE esz d H (fillP env z ps) := by
  simp only [evE]
  cases fillP env z ps with
  | none => rfl
  | some r =>
    simp only [Option.bind_some, kBsE]
    split
    · cases packC H r <;> rfl
    · rfl
theorem kBsE_some (esz d : Nat) (r : Row) : kBsE esz d H (some r) = if 0 < esz ∧ freshN H (d * 1000) then kBsl esz d H r.length (packC H r) else none := rfl
theorem kBsl_some (esz d n : Nat) (cs : List LV) (h : Heap) : kBsl esz d H n (some (cs, h)) = some (.sl esz (d * 1000) 0 (n / esz), (d * 1000, some (chop esz (n / esz) cs)) :: (h ++ H)) := rfl
def kMks0 (z : Row) (bytes d : Nat) (H : Heap) : Option Int → Option Int → Option (LV × Heap)
  | some n, some c => kMks z bytes d H n c
  | _, _ => none
theorem evE_mks (d : Nat) (z : Row) (bytes : Nat) (l c : Opd) : evE S env H d (.mks z bytes l c) = kMks0 z bytes d H (asI (l.ev env)) (asI (c.ev env)) := by
  simp only [evE]
  cases asI (l.ev env) with
  | none => rfl
  | some n => cases asI (c.ev env) <;> rfl
theorem kMks0_some (z : Row) (bytes d : Nat) (n c : Int) : kMks0 z bytes d H (some n) (some c) = if 0 ≤ n ∧ n = c ∧ n * bytes ≤ 140737488355328 ∧ 0 < z.length ∧ freshN H (d * 1000) then some (.sl z.length (d * 1000) 0 n.toNat, (d * 1000, some (List.replicate n.toNat z)) :: H) else none := rfl
theorem app_aux (esz bytes d es off len o : Nat) (src : Rows × Heap) (H : Heap) (q : Option Rows) :
    (q.bind fun x => if es = esz ∧ off + len = x.length ∧ (len + src.1.length) * bytes ≤ 140737488355328 then some (LV.sl esz (d * 1000) 0 (len + src.1.length), (d * 1000, some (vw x off len ++ src.1)) :: (o, none) :: (src.2 ++ H)) else none) = if es = esz then app2 esz bytes d off len o src H q else none := by
  by_cases e : es = esz
  · subst e
    cases q <;> simp [app2]
  · cases q <;> simp [app2, e]
theorem evE_app (d esz bytes : Nat) (mv : Bool) (x y : Opd) : evE S env H d (.app esz bytes mv x y) = app1 esz bytes d (x.ev env) H (appSrc esz H mv (y.ev env)) := by
  simp only [evE]
  cases appSrc esz H mv (y.ev env) with
  | none => rfl
  | some src =>
    simp only [Option.bind_some, app1]
    split
    · cases x.ev env <;> try rfl
      exact app_aux _ _ _ _ _ _ _ _ _ _
    · rfl
theorem app1_nil (esz bytes d es : Nat) (src : Rows) (h : Heap) : app1 esz bytes d (.nil es) H (some (src, h)) = if freshN H (d * 1000) then (if src.length * bytes ≤ 140737488355328 then some (.sl esz (d * 1000) 0 src.length, (d * 1000, some src) :: (h ++ H)) else none) else none := rfl
theorem app1_sl (esz bytes d o off len : Nat) (src : Rows) (h : Heap) : app1 esz bytes d (.sl esz o off len) H (some (src, h)) = if freshN H (d * 1000) then app2 esz bytes d off len o (src, h) H (live (h ++ H) o) else none := by simp [app1]
theorem app2_some (esz bytes d off len o : Nat) (src : Rows) (h : Heap) (x : Rows) : app2 esz bytes d off len o (src, h) H (some x) = if off + len = x.length ∧ (len + src.length) * bytes ≤ 140737488355328 then some (.sl esz (d * 1000) 0 (len + src.length), (d * 1000, some (vw x off len ++ src)) :: (o, none) :: (h ++ H)) else none := rfl
theorem appSrc_list (esz : Nat) (mv : Bool) (ys : Rows) : appSrc esz H mv (.list esz ys) = if rowsScalar ys then some (ys, []) else some (ys.map (·.map ldi), []) := by simp [appSrc]
theorem appSrc_nil (esz es : Nat) (mv : Bool) : appSrc esz H mv (.nil es) = some ([], []) := rfl
theorem appSrc_sl (esz o off len : Nat) (mv : Bool) : appSrc esz H mv (.sl esz o off len) = srcO mv o off len (live H o) := by
  simp only [appSrc, if_true]
  cases live H o with
  | none => rfl
  | some y => cases mv <;> rfl
theorem srcO_t (o off len : Nat) (y : Rows) : srcO true o off len (some y) = if rowsPlain y then some (vw y off len, [(o, none)]) else none := rfl
theorem srcO_f (o off len : Nat) (y : Rows) : srcO false o off len (some y) = if rowsScalar y then some (vw y off len, []) else none := rfl
theorem evE_call (d f : Nat) (args : List Opd) (lent : List Nat) : evE S env H d (.call f args lent) = ca1 S f (lendOk lent 0 (args.map (Opd.ev env))) d H (lendA H lent (args.map (Opd.ev env))) := by
  simp only [evE]
  cases lendA H lent (args.map (Opd.ev env)) with
  | none => rfl
  | some p =>
    simp only [Option.bind_some, ca1]
    cases S f p.1 p.2.1 with
    | none => rfl
    | some r =>
      simp only [Option.bind_some, ca2]
      cases back p.2.2 r.2 <;> rfl
theorem ca1_some (f : Nat) (ok : Bool) (d : Nat) (as : List LV) (os : Heap) (nm : List (Nat × Nat)) : ca1 S f ok d H (some (as, os, nm)) = ca2 ok d H nm (S f as os) := rfl
theorem ca2_some (ok : Bool) (d : Nat) (nm : List (Nat × Nat)) (r : List LV) (h : Heap) : ca2 ok d H nm (some (r, h)) = ca3 ok d H r (back nm h) := rfl
theorem ca2_ite (ok : Bool) (d : Nat) (nm : List (Nat × Nat)) (p : Prop) [Decidable p] (x y : Option (List LV × Heap)) : ca2 ok d H nm (if p then x else y) = if p then ca2 ok d H nm x else ca2 ok d H nm y := by split <;> rfl
theorem ca3_some (ok : Bool) (d : Nat) (r : List LV) (hb : Heap) : ca3 ok d H r (some hb) = if freshAll H (impR ok (d * 1000) r).2 = true ∧ distinct ((impR ok (d * 1000) r).2.map (·.1)) = true ∧ (ok || (pureH (impR ok (d * 1000) r).2 && pureH hb)) = true then
      some (pack1 (impR ok (d * 1000) r).1, (impR ok (d * 1000) r).2 ++ (hb ++ H)) else none := rfl
theorem packC_nil : packC H [] = some ([], []) := rfl
theorem packC_sl (es o off len : Nat) (r : List LV) : packC H (.sl es o off len :: r) = packO H es o off len r (live H o) := by
  simp only [packC]
  cases live H o with
  | none => rfl
  | some x =>
    simp only [Option.bind_some, packO]
    split
    · cases packC ((o, none) :: H) r <;> rfl
    · rfl
theorem packO_some (es o off len : Nat) (r : List LV) (x : Rows) : packO H es o off len r (some x) = if rowsPlain x then packK (.arr es (vw x off len)) [(o, none)] (packC ((o, none) :: H) r) else none := rfl
theorem packC_list (es : Nat) (xs : Rows) (r : List LV) : packC H (.list es xs :: r) = packK (.list es xs) [] (packC H r) := by simp only [packC]; cases packC H r <;> rfl
theorem packC_ni (es : Nat) (r : List LV) : packC H (.nil es :: r) = packK (.arr es []) [] (packC H r) := by simp only [packC]; cases packC H r <;> rfl
theorem packC_int (k : IntKind) (n : Int) (r : List LV) : packC H (.int k n :: r) = packK (.int k n) [] (packC H r) := by simp only [packC, LV.plain, if_true]; cases packC H r <;> rfl
theorem packC_bool (b : Bool) (r : List LV) : packC H (.bool b :: r) = packK (.bool b) [] (packC H r) := by simp only [packC, LV.plain, if_true]; cases packC H r <;> rfl
theorem packC_str (s : ByteArray) (r : List LV) : packC H (.str s :: r) = packK (.str s) [] (packC H r) := by simp only [packC, LV.plain, if_true]; cases packC H r <;> rfl
theorem packC_arr (es : Nat) (xs : Rows) (r : List LV) : packC H (.arr es xs :: r) = packK (.arr es xs) [] (packC H r) := by simp only [packC, LV.plain, if_true]; cases packC H r <;> rfl
theorem packC_undef (r : List LV) : packC H (.undef :: r) = packK .undef [] (packC H r) := by simp only [packC, LV.plain, if_true]; cases packC H r <;> rfl
theorem packK_some (x : LV) (h : Heap) (p : List LV) (g : Heap) : packK x h (some (p, g)) = some (x :: p, h ++ g) := rfl

/-! what goes out -/
def out1 : Option (List LV × Heap) → Option (LV × Heap)
  | some (v :: [], h) => some (v, h)
  | _ => none
def outA : Option (List LV × Heap) → Option (LV × Heap)
  | some (r, h) => some (.agg r, h)
  | none => none
theorem outV_agg (cs : List LV) : outV H (.agg cs) = outA (packC H cs) := by simp only [outV]; cases packC H cs <;> rfl
theorem outV_int (k : IntKind) (n : Int) : outV H (.int k n) = some (.int k n, []) := rfl
theorem outV_bool (b : Bool) : outV H (.bool b) = some (.bool b, []) := rfl
theorem outV_str (s : ByteArray) : outV H (.str s) = some (.str s, []) := rfl
theorem outV_list (es : Nat) (xs : Rows) : outV H (.list es xs) = some (.list es xs, []) := rfl
theorem outV_nil (es : Nat) : outV H (.nil es) = some (.arr es [], []) := rfl
theorem outV_sl (es o off len : Nat) : outV H (.sl es o off len) = out1 (packC H [.sl es o off len]) := by
  simp only [outV]
  cases packC H [LV.sl es o off len] with
  | none => rfl
  | some p =>
    obtain ⟨r, h⟩ := p
    match r with
    | [] => rfl
    | [v] => rfl
    | _ :: _ :: _ => rfl
theorem out1_some (v : LV) (h : Heap) : out1 (some ([v], h)) = some (v, h) := rfl
theorem outA_some (r : List LV) (h : Heap) : outA (some (r, h)) = some (.agg r, h) := rfl
def kOuts (s : St) (H : Heap) (rs : List LRes) : Option (LV × Heap) → Option (List LV × Heap)
  | some p => match outs s (p.2 ++ H) rs with
    | some q => some (p.1 :: q.1, q.2)
    | none => none
  | none => none
def kOut (s : St) (H : Heap) (rs : List LRes) : Option LV → Option (List LV × Heap)
  | some v => kOuts s H rs (outV H v)
  | none => none
def kOut2 (v : LV) : Option (List LV × Heap) → Option (List LV × Heap)
  | some q => some (v :: q.1, q.2)
  | none => none
theorem outs_nil (s : St) : outs s H [] = some ([], H) := rfl
theorem outs_cons (s : St) (r : LRes) (rs : List LRes) : outs s H (r :: rs) = kOut s H rs (resVal s r) := by
  simp only [outs]
  cases resVal s r with
  | none => rfl
  | some v =>
    simp only [Option.bind_some, kOut]
    cases outV H v with
    | none => rfl
    | some p => simp only [Option.bind_some, kOuts]; cases outs s (p.2 ++ H) rs <;> rfl
theorem kOut_some (s : St) (rs : List LRes) (v : LV) : kOut s H rs (some v) = kOuts s H rs (outV H v) := rfl
theorem kOuts_some (s : St) (rs : List LRes) (v : LV) (h : Heap) : kOuts s H rs (some (v, h)) = kOut2 v (outs s (h ++ H) rs) := by
  simp only [kOuts]; cases outs s (h ++ H) rs <;> rfl
theorem kOut2_some (v : LV) (q : List LV) (h : Heap) : kOut2 v (some (q, h)) = some (v :: q, h) := rfl
theorem resVal_t (s : St) (n : Nat) : resVal s (.t n) = look s.env n := rfl
theorem resVal_cell (s : St) (n k : Nat) (ag : Bool) : resVal s (.cell n k ag) = evLoad k ag s.heap ((look s.env n).getD .undef) := rfl
end
end Go.Lev
