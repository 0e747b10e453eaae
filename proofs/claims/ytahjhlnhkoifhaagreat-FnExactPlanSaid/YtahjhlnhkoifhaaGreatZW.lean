/- A law's call, for all arguments. -/
import Derived.Test.YtahjhlnhkoifhaaGreatZV
import Derived.ProofKit
set_option linter.unusedVariables false
set_option linter.unusedSimpArgs false
namespace Go.Lev
open Go.ChangeShapes Go.WideShapes Go.ChangeAt Go.RowKit

def argLV : Bool → List LV → LV
  | true, cs => .agg cs
  | false, [c] => c
  | false, _ => .undef
def ArgsSh : List (Bool × List Sh) → List LV → Prop
  | [], as => as = []
  | (ag, shs) :: r, as => ∃ cs as', as = argLV ag cs :: as' ∧ ShC shs cs ∧ ArgsSh r as'
def isStruct (P : Program) (t : TypeId) : Bool := match P.underlying t with
  | some (.struct _) => true
  | _ => false
def shArgs (P : Program) : List TypeId → Option (List (Bool × List Sh))
  | [] => some []
  | t :: ts => (shOf P 20 t).bind fun s => (shArgs P ts).bind fun r => some ((isStruct P t, s) :: r)

mutual
theorem ShV_ldi : ∀ (s : Sh) (v : LV), ShV s v → ldi v = v
  | .int k, v, h => by obtain ⟨n, rfl, _⟩ := h; rfl
  | .bool, v, h => by obtain ⟨n, rfl⟩ := h; rfl
  | .str, v, h => by obtain ⟨n, rfl, _⟩ := h; rfl
  | .sl es bytes row, v, h => by
    simp only [ShV] at h
    obtain ⟨n, rfl, _⟩ := h; rfl
theorem ShC_ldi : ∀ (ss : List Sh) (cs : List LV), ShC ss cs → cs.map ldi = cs
  | [], cs, h => by simp only [ShC] at h; subst h; rfl
  | s :: ss, cs, h => by
    simp only [ShC] at h
    obtain ⟨c, r, rfl, h1, h2⟩ := h
    rw [List.map_cons, ShV_ldi s c h1, ShC_ldi ss r h2]
end

section
variable {H : Type} {enc : TypeId × Value → H} {P : Program} {w : World}

theorem not_agg {t : TypeId} {v : Value} {d : DataW H} {ps : List MemPlace} {b0 : Nat} {shs : List Sh} {n : Nat} (hs : shOf P n t = some shs) (hn : isStruct P t = false) (hval : Value.okWide P w .any b0 t v) (hd : DataW.Trod enc P w 0 (fun _ => true) true t v d ps) : v.cells.toList = [v] := by
  cases n with
  | zero => simp [shOf] at hs
  | succ n =>
    simp only [shOf] at hs
    split at hs
    · rename_i hu
      obtain ⟨b, rfl, _⟩ := open_bool hu hval hd
      rfl
    · rename_i k hu
      obtain ⟨a, rfl, _⟩ := open_int hu hval hd
      rfl
    · rename_i hu
      obtain ⟨s, rfl⟩ := okWide_string hu hval
      rfl
    · rename_i e hu
      obtain ⟨a, l, c, rfl⟩ := okWide_slice hu hval
      rfl
    · rename_i fs hu
      simp [isStruct, hu] at hn
    · cases hs

theorem args_rel {loc : Nat → Loc} {b0 : Nat} : ∀ {ts : List TypeId} {vs : List Value} {ds : List (DataW H)} {ps : List MemPlace} {shss : List (Bool × List Sh)}, shArgs P ts = some shss → DataW.TrodAll enc P w 0 (fun _ => true) true ts vs ds ps →
    (∀ (j : Nat) t v, ts[j]? = some t → vs[j]? = some v → Value.okWide P w .any b0 t v) → (∀ m, m ∈ DataW.weightsEach P ts ds → m ≤ reachBytes) →
    ∃ as, ArgsSh shss as ∧ VC w (fun b => b < w.heap.size) loc as vs
  | [], vs, ds, ps, shss, hs, ht, hv, hw => by
    obtain ⟨rfl, rfl, rfl⟩ := trodAll_nil ht
    obtain rfl := Option.some.inj hs
    exact ⟨[], rfl, rfl⟩
  | t :: ts, vs, ds, ps, shss, hs, ht, hv, hw => by
    obtain ⟨v, vs', d, ds', p, q, rfl, rfl, rfl, h1, h2⟩ := trodAll_cons ht
    simp only [shArgs] at hs
    obtain ⟨s, hs1, hs⟩ := Option.bind_eq_some_iff.1 hs
    obtain ⟨r, hs2, hs⟩ := Option.bind_eq_some_iff.1 hs
    obtain rfl := Option.some.inj hs
    simp only [DataW.weightsEach, List.mem_append] at hw
    have hval := hv 0 t v rfl rfl
    obtain ⟨as', k1, k2⟩ := args_rel (loc := loc) hs2 h2 (fun j t v hj hj' => hv (j + 1) t v (by simpa using hj) (by simpa using hj')) (fun m hm => hw m (.inr hm))
    obtain ⟨fuel, hf⟩ := id h1
    obtain ⟨lvs, g1, g2, g3⟩ := trod_sh 20 fuel t s _ _ hs1 hf (fun m hm => hw m (.inl hm))
    obtain ⟨e1, e2⟩ := ImmC_VC (loc := loc) g1
    rw [ShC_ldi s lvs g3, List.take_of_length_le (by omega)] at e1
    rw [List.take_of_length_le (by omega)] at e2
    refine ⟨argLV (isStruct P t) lvs :: as', ⟨lvs, as', rfl, g3, k1⟩, ?_⟩
    simp only [VC]
    refine ⟨v, vs', rfl, ?_, k2⟩
    cases hst : isStruct P t with
    | true =>
      unfold isStruct at hst
      split at hst
      · rename_i fs hu
        obtain ⟨cs, rfl, _⟩ := okWide_struct hu hval
        simp only [argLV, VRel]
        exact ⟨cs.toList, by simp, e2, e1⟩
      · cases hst
    | false =>
      have hc := not_agg hs1 hst hval h1
      rw [hc] at g2 e1
      match lvs, g2 with
      | [c], _ =>
        simp only [VC] at e1
        obtain ⟨v', t', e, k, _⟩ := e1
        obtain ⟨rfl, _⟩ := List.cons.inj e
        exact k

/-- A law that a run answers true comes to true, and leaves all memory as it was. -/
theorem law_calls {S : Sig} (hS : SigOk P S) {f : FuncId} {ts : List TypeId} {shss : List (Bool × List Sh)} (hsh : shArgs P ts = some shss) (hlaw : ∀ as, ArgsSh shss as → S f as [] = some ([.bool true], [])) {b0 : Nat} {args : Array Value} {ds : List (DataW H)} {ps : List MemPlace}
    (ht : DataW.TrodAll enc P w 0 (fun _ => true) true ts args.toList ds ps) (hv : ∀ (j : Nat) t v, ts[j]? = some t → args[j]? = some v → Value.okWide P w .any b0 t v) (hw : (DataW.weightsEach P ts ds).all (· ≤ reachBytes) = true) :
    Calls P f args w fun e w' => e = .returned (.bool true) ∧ Below w.heap.size w w' := by
  obtain ⟨as, h1, h2⟩ := args_rel (loc := fun _ => .unk) hsh ht (fun j t v hj hj' => hv j t v hj (by simpa using hj')) (fun m hm => by simpa using List.all_eq_true.1 hw m hm)
  obtain ⟨_, h3⟩ := hS f as [] _ (hlaw as h1)
  have := h3 w args.toList (fun b => b < w.heap.size) (fun _ => .unk) (fun _ => []) (fun b hb => hb) (no_lent w _) h2
  rw [Array.toArray_toList] at this
  refine this.mono ?_
  rintro e w' ⟨rs, J, φ', fp, rfl, post⟩
  have hout := post.out
  simp only [OutL] at hout
  obtain ⟨v, t, f1, f2, rfl, rfl, h4, rfl, rfl⟩ := hout
  have hv : v = .bool true := by
    simp only [OutV, OwnV] at h4
    exact h4.1
  subst hv
  exact ⟨rfl, post.os, post.tape, post.output, post.size, fun k hk => post.same k hk (fun n x hn => by simp [live, look] at hn)⟩

theorem trodAll_len {b0 : Nat} {sp : Nat → Bool} {hd : Bool} : ∀ {ts : List TypeId} {vs : List Value} {ds : List (DataW H)} {ps : List MemPlace}, DataW.TrodAll enc P w b0 sp hd ts vs ds ps → ds.length = ts.length
  | [], vs, ds, ps, h => by obtain ⟨rfl, rfl, rfl⟩ := trodAll_nil h; rfl
  | t :: ts, vs, ds, ps, h => by
    obtain ⟨v, vs', d, ds', p, q, rfl, rfl, rfl, h1, h2⟩ := trodAll_cons h
    simp [trodAll_len h2]
/-- What was read before a call that leaves all memory as it was is read behind it. -/
theorem read_again (hl : laidOutB P = true) {w' : World} (hb : Below w.heap.size w w') : ∀ {ts : List TypeId} {vs : List Value} {ds : List (DataW H)} {ps : List MemPlace}, (ts.all fun t => P.readableRec t && decide (t < P.types.size)) = true → DataW.TrodAll enc P w 0 (fun _ => true) true ts vs ds ps → (∀ x, x ∈ ps → x.block < w.heap.size) →
    DataW.TrodAll enc P w' 0 (fun b => decide (b < w.heap.size)) true ts vs ds ps
  | [], vs, ds, ps, _, ht, _ => by
    obtain ⟨rfl, rfl, rfl⟩ := trodAll_nil ht
    exact trodAll_mk0
  | t :: ts, vs, ds, ps, hr, ht, hlt => by
    obtain ⟨v, vs', d, ds', p, q, rfl, rfl, rfl, h1, h2⟩ := trodAll_cons ht
    simp only [List.all_cons, Bool.and_eq_true, decide_eq_true_eq] at hr
    exact ⟨_, _, Below.trod hl hr.1.1 hr.1.2 h1 hb (fun x hx => hlt x (List.mem_append_left _ hx)), read_again hl hb hr.2 h2 (fun x hx => hlt x (List.mem_append_right _ hx)), rfl⟩
end
end Go.Lev
