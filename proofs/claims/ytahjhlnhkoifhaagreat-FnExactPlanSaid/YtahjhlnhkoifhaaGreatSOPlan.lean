/- FnExactPlan: for all arguments the law answers true. A text of its proof: what functions of the program and of the reference answer; no conditions but those that each theorem names. -/
import Derived.Test.YtahjhlnhkoifhaaGreatRows
import Derived.Test.YtahjhlnhkoifhaaGreatZW
import Derived.Test.YtahjhlnhkoifhaaGreatSNPlan
namespace Go.Proofs.YtahjhlnhkoifhaaGreat
open Go.ChangeShapes Go.WideShapes Go.ChangeAt Go.RowKit Go Go.Lev
theorem own : ownKnob Tryz.prog.godebug = none := by kernel_rfl
theorem laidOut : laidOutB Tryz.prog = true := by kernel_rfl
theorem mixed : Tryz.prog.follows .mixedOrders = true := by kernel_rfl
set_option maxRecDepth 100000 in
theorem lifted {S : Sig} (hS : SigOk Tryz.prog S) (hlaw : ∃ shss, shArgs Tryz.prog Tryz.f3.params.toList = some shss ∧ ∀ xs, ArgsSh shss xs → S 3 xs [] = some ([.bool true], [])) (os : Os) (started : os.Started) (H : Type) (enc : TypeId × Value → H) :
    ReturnsInHanded {} Tryz.checked os 3 .any (Rows.fnExactPlanSpec.pre6 enc Tryz.prog Tryz.f3 Rows.fnExactPlanRow.domain false) (Rows.fnExactPlanSpec.post enc Tryz.prog Tryz.f3 false true false false) := by
  obtain ⟨shss, hsh, hlaw⟩ := hlaw
  refine returnsInHanded_of_change_sized (C := Tryz.checked) own started (by kernel_rfl) Tryz.func3
    (ChangeSpec.witness6 (enc := enc) (C := Tryz.checked) false ⟨#[], #[.agg #[.int .i64 0, .int .i64 0, .int .i64 0, .int .i64 0, .int .i64 0, .int .i64 0, .int .i64 0, .int .i64 0, .int .i64 0, .int .i64 0, .int .i64 0, .int .i64 0, .int .i64 0, .int .i64 0, .int .i64 0, .slice none 0 0, .slice none 0 0, .slice none 0 0, .slice none 0 0], .slice none 0 0], []⟩ 8 (by kernel_rfl) (by kernel_rfl) (by kernel_rfl) (by kernel_rfl)) ?_
  intro W base args ds gs before hval0 hW _ hsz _
  have hval : ∀ (j : Nat) t v, Tryz.f3.params.toList[j]? = some t → args[j]? = some v → Value.okWide Tryz.prog W .any base t v := fun j t v h => hval0 j t v (by simpa using h)
  have hW' := hW
  have hlt := hW.lt
  obtain ⟨p, q, hA0, hV, rfl, hfz, hnd⟩ := hW
  have hA : DataW.TrodAll enc Tryz.prog W 0 (fun _ => true) true Tryz.f3.params.toList args.toList ds p := hA0
  obtain ⟨rfl, rfl⟩ := trodVars_none hV
  have hsz' : (DataW.weightsEach Tryz.prog Tryz.f3.params.toList ds).all (· ≤ reachBytes) = true := by
    have e1 : DataSpec.varTypes Tryz.checked.prog Rows.fnExactPlanSpec.plain = [] := rfl
    rw [e1, List.append_nil, List.append_nil] at hsz
    exact hsz
  refine (law_calls hS hsh hlaw hA hval hsz').mono fun e W' ⟨he, hb⟩ => ?_
  subst he
  have hr := read_again laidOut hb (by kernel_rfl) hA (fun x hx => hlt x (by simp [hx]))
  have hl := trodAll_len hA
  refine ⟨_, rfl, ds, [], p ++ [], [], p, [], hW', ?_, ?_, ?_, hb.frame _, fun h => by cases h⟩
  · match ds, hl with
    | [d0, d1], _ => exact trodAll_mk1 (shut_bool Tryz.underlying4 _)
  · match ds, hl, hr with
    | [d0, d1], _, hr => exact hr
  · match ds, hl with
    | [d0, d1], _ => exact rfl
theorem f_holds {S : Sig} (hS : SigOk Tryz.prog S) (hlaw : ∃ shss, shArgs Tryz.prog Tryz.f3.params.toList = some shss ∧ ∀ xs, ArgsSh shss xs → S 3 xs [] = some ([.bool true], [])) : Rows.FnExactPlanSaid :=
  OpenClaim.holds_of_wide 3 Tryz.f3 rfl rfl rfl rfl rfl rfl rfl ⟨rfl, rfl, rfl, rfl, rfl⟩ rfl rfl rfl rfl rfl (by kernel_rfl) Tryz.func3 (by kernel_rfl)
    (of_decide_eq_true (by kernel_rfl)) (by unfold Func.isWrapper; first | (rw [if_pos (by decide +kernel)]; kernel_rfl) | (rw [if_neg (by decide +kernel)]; exact ⟨rfl, rfl⟩))
    (fun os started H enc _ => lifted hS hlaw os started H enc)
theorem shapes : shArgs Tryz.prog Tryz.f3.params.toList = some [(true, Plan.shTables), (false, [Plan.shInts])] := by kernel_rfl
theorem planHolds : Rows.FnExactPlanSaid := f_holds Plan.L_ok ⟨_, shapes, Plan.law_all⟩
end Go.Proofs.YtahjhlnhkoifhaaGreat
