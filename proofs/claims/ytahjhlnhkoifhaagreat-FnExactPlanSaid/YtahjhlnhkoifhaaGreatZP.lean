/- Calls of all depths: functions in an order, callees first. -/
import Derived.Test.YtahjhlnhkoifhaaGreatZO
set_option linter.unusedVariables false
set_option linter.unusedSimpArgs false
namespace Go.Lev

/-- A function's place in the order, and its code. -/
abbrev Tab := List (Nat × Nat × LFun)
noncomputable def lvl (T : Tab) (prims : Sig) : Nat → Sig
  | 0 => fun f a o => match look T f with
    | none => prims f a o
    | some _ => none
  | n + 1 => fun f a o => match look T f with
    | none => prims f a o
    | some (r, lf) => if r = n then runF (lvl T prims n) lf a o else lvl T prims n f a o
noncomputable def lev (T : Tab) (prims : Sig) : Sig := fun f a o => match look T f with
  | none => prims f a o
  | some (r, lf) => runF (lvl T prims r) lf a o

theorem lvl_none {T : Tab} {prims : Sig} {f : Nat} (h : look T f = none) : ∀ n, lvl T prims n f = prims f
  | 0 => by funext a o; simp only [lvl, h]
  | n + 1 => by funext a o; simp only [lvl, h]
theorem lvl_lev {T : Tab} {prims : Sig} {f r : Nat} {lf : LFun} (h : look T f = some (r, lf)) : ∀ {n : Nat}, r < n → lvl T prims n f = lev T prims f
  | 0, hn => by omega
  | n + 1, hn => by
    funext a o
    simp only [lvl, h]
    split
    · rename_i e
      subst e
      simp only [lev, h]
    · rw [lvl_lev h (n := n) (by omega)]
theorem lev_eq {T : Tab} {prims : Sig} {f r : Nat} {lf : LFun} (h : look T f = some (r, lf)) (a : List LV) (o : Heap) : lev T prims f a o = runF (lvl T prims r) lf a o := by
  simp only [lev, h]
theorem lev_prim {T : Tab} {prims : Sig} {f : Nat} (h : look T f = none) : lev T prims f = prims f := by
  funext a o
  simp only [lev, h]

def TabOk (P : Program) (T : Tab) : Prop := ∀ f r lf, look T f = some (r, lf) → ∃ fn, P.funcs[f]? = some fn ∧ chkFn P fn lf = true
theorem TabOk.nil {P : Program} : TabOk P [] := fun f r lf h => by simp [look] at h
theorem TabOk.cons {P : Program} {T : Tab} {f r : Nat} {lf : LFun} {fn : Func} (hf : P.funcs[f]? = some fn) (hc : chkFn P fn lf = true) (h : TabOk P T) : TabOk P ((f, r, lf) :: T) := by
  intro g r' lf' hg
  rw [look_cons] at hg
  split at hg
  · rename_i e
    subst e
    obtain ⟨rfl, rfl⟩ := Prod.mk.inj (Option.some.inj hg)
    exact ⟨fn, hf, hc⟩
  · exact h g r' lf' hg

theorem lvl_ok {P : Program} {T : Tab} {prims : Sig} (hm : P.follows .mixedOrders = true) (hT : TabOk P T) (hp : SigOk P prims) : ∀ n, SigOk P (lvl T prims n)
  | 0, f, a, o, r, h => by
    simp only [lvl] at h
    split at h
    · exact hp f a o r h
    · cases h
  | n + 1, f, a, o, r, h => by
    simp only [lvl] at h
    split at h
    · exact hp f a o r h
    · rename_i q lf hl
      split at h
      · obtain ⟨fn, h1, h2⟩ := hT f _ lf hl
        exact fun_ok (lvl_ok hm hT hp n) hm h1 h2 h
      · exact lvl_ok hm hT hp n f a o r h
theorem lev_ok {P : Program} {T : Tab} {prims : Sig} (hm : P.follows .mixedOrders = true) (hT : TabOk P T) (hp : SigOk P prims) : SigOk P (lev T prims) := by
  intro f a o r h
  simp only [lev] at h
  split at h
  · exact hp f a o r h
  · rename_i q lf hl
    obtain ⟨fn, h1, h2⟩ := hT f _ lf hl
    exact fun_ok (lvl_ok hm hT hp q) hm h1 h2 h
end Go.Lev
