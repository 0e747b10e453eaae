/- slices.Clone: its contract, for all lists. -/
import Derived.Test.YtahjhlnhkoifhaaGreatZP
set_option linter.unusedVariables false
set_option linter.unusedSimpArgs false
namespace Go.Lev

def cpy (xs : Rows) : Rows := if rowsScalar xs then xs else xs.map (·.map ldi)
def cloneF (es bytes : Nat) : List LV → Heap → Option (List LV × Heap)
  | [.list es' xs], [] => if es' = es ∧ xs.length * bytes ≤ 140737488355328 ∧ rowsPlain (cpy xs) = true then some ([.arr es (cpy xs)], []) else none
  | _, _ => none
def cloneTail (es bytes : Nat) : LC := .seq (.reg [.e (some 5) (.bslice es [] []), .q 6 (.mov (.t 0)), .e (some 7) (.app es bytes false (.t 5) (.t 6)), .q 2 (.mov (.t 7))]) .ret
def cloneNil (es : Nat) : LC := .seq (.reg [.q 2 (.mov (.c (.nil es)))]) .ret
def isNilCmp (P : Program) (o : Oper) : Bool :=
  decide (o.dst = some 4) && decide (o.guard = none) && match o.op with
    | .binOp .eql t (.tmp 3) (.const (.slice none 0 0)) _ => (match P.underlying t with
      | some (.slice _) => true
      | _ => false)
    | _ => false
def chkClone (P : Program) (fn : Func) (es bytes : Nat) : Bool :=
  (match fn.body with
   | some (.seq r0 (.seq (.seq (.region _ xs false) (.cond (.tmp 4) ca .skip)) tail)) =>
      chkC P (1 + (fn.ntmps - 1)) (.reg [.q 2 (.mov (.c (.nil es)))]) r0 && (match xs.toList with
        | [o0, o1] => chkF P (1 + (fn.ntmps - 1)) xs ⟨none, some 3, .q (.mov (.t 0))⟩ o0 && isNilCmp P o1 && decide (4 < 1 + (fn.ntmps - 1))
        | _ => false) && chkC P (1 + (fn.ntmps - 1)) (cloneNil es) ca && chkC P (1 + (fn.ntmps - 1)) (cloneTail es bytes) tail && decide (0 < es)
   | _ => false) && !(fn.name == "runtime.NumGoroutine") && chkRes P [.t 2] fn.results.toList

section
variable {P : Program} {S : Sig}
theorem no_sig (P : Program) : SigOk P (fun _ _ _ => none) := fun f a o r h => by cases h

theorem equalIn_nil {w : World} {t e : TypeId} (d : Nat) (hu : P.underlying t = some (.slice e)) (ad : Option Addr) (len cap : Nat) : (Op.equalIn (d + 1) t (.slice ad len cap) (.slice none 0 0)).run P w = .ok ad.isNone w := by
  cases ad <;> simp [Op.equalIn, run_underlying hu]
theorem cmp_nil {a : Act} {w : World} {o : Oper} (h : isNilCmp P o = true) {ad : Option Addr} {len cap : Nat} (hx : a.eval (.tmp 3) = .slice ad len cap) : (execOp a.eval o).run P w = .ok (.value (.bool ad.isNone)) w ∧ o.dst = some 4 ∧ o.guard = none := by
  unfold isNilCmp at h
  simp only [Bool.and_eq_true, decide_eq_true_eq] at h
  obtain ⟨⟨h1, h2⟩, h3⟩ := h
  refine ⟨?_, h1, h2⟩
  split at h3
  · rename_i t yt ho
    split at h3
    · rename_i e hu
      have hE : (Op.equal t (.slice ad len cap) (.slice none 0 0)).run P w = .ok ad.isNone w := by
        exact equalIn_nil 9999 hu ad len cap
      have hy : a.eval (.const (.slice none 0 0)) = .slice none 0 0 := rfl
      simp [execOp, ho, hx, hy, eqGuard, binOp, hE]
    · cases h3
  · cases h3

theorem clone_snd (hm : P.follows .mixedOrders = true) {f : FuncId} {fn : Func} {es bytes : Nat} (hf : P.funcs[f]? = some fn) (hc : chkClone P fn es bytes = true) {args : List LV} {objs : Heap} {r : List LV × Heap} (hr : cloneF es bytes args objs = some r) : Snd P f args objs r.1 r.2 := by
  unfold chkClone at hc
  simp only [Bool.and_eq_true, Bool.not_eq_true'] at hc
  obtain ⟨⟨hcode, hname⟩, hres⟩ := hc
  unfold cloneF at hr
  split at hr
  · rename_i es' xs
    split at hr
    · rename_i hcond
      obtain ⟨rfl, hlen, hplain⟩ := hcond
      obtain rfl := Option.some.inj hr
      split at hcode
      · rename_i r0 i ops ca tail hb
        simp only [Bool.and_eq_true, decide_eq_true_eq] at hcode
        obtain ⟨⟨⟨⟨c0, c1⟩, c2⟩, c3⟩, c4⟩ := hcode
        split at c1
        · rename_i o0 o1 hops
          simp only [Bool.and_eq_true, decide_eq_true_eq] at c1
          obtain ⟨⟨d0, d1⟩, d2⟩ := c1
          have hcl : (cpy xs).length = xs.length := by unfold cpy; split <;> simp
          refine fun_gen (np := 1) (res := [.t 2]) (s' := ⟨[(2, .sl es' 7000 0 xs.length)], [(7000, some (cpy xs)), (5000, none), (5000, some [])]⟩) (r := ([.arr es' (cpy xs)], [])) hf hb hname hres rfl ?_ ?_
          · have hvw : vw (cpy xs) 0 xs.length = cpy xs := by rw [← hcl]; simp [vw]
            simp [outs, resVal, look, outV, packC, live, hplain, hvw, fin]
          · intro c a w Q hnt h0 hQ
            rw [← hnt] at c0 c2 c3 d0
            have hQr : ∀ a' w', SR c [(2, .sl es' 7000 0 xs.length)] [(7000, some (cpy xs)), (5000, none), (5000, some [])] a' w' → Q .ret a' w' := fun a' w' hs => (hQ a' w' hs).2
            refine wp_seq (code_ok (c := c) (no_sig P) hm (.reg [.q 2 (.mov (.c (.nil es')))]) r0 (s := ⟨[(0, .list es' xs)], []⟩) (s' := ⟨[(2, .nil es'), (0, .list es' xs)], []⟩) (e := .normal) c0 rfl h0 (fun a1 w1 h1 => ?_))
            refine wp_seq (wp_seq (wp_region ?_))
            have hsz : ops.size = 2 := by rw [← Array.length_toList, hops]; rfl
            have e0 : ops[0]? = some o0 := by rw [← Array.getElem?_toList, hops]; rfl
            have e1 : ops[1]? = some o1 := by rw [← Array.getElem?_toList, hops]; rfl
            rw [hsz]
            show wpOps P ops _ [0, 1] a1 w1
            simp only [wpOps, e0, e1]
            obtain ⟨J1, loc1, φ1, x1⟩ := h1
            have hstep := f_ok (S := fun _ _ _ => none) (no_sig P) x1 (fun _ _ k => k) d0 (p := (.list es' xs, [])) rfl (K := fun a w => if Region.wanted o1 (yielded ops a.tmps) = true then o1.wp P a w (fun a w => Exit.then ((Code.cond (.tmp 4) ca .skip).wp P (Exit.then (tail.wp P Q) Q)) (Exit.then (tail.wp P Q) Q) .normal a w) (Exit.then ((Code.cond (.tmp 4) ca .skip).wp P (Exit.then (tail.wp P Q) Q)) (Exit.then (tail.wp P Q) Q)) ∨ (o1.asks P a w ∧ LetsOut (Exit.then ((Code.cond (.tmp 4) ca .skip).wp P (Exit.then (tail.wp P Q) Q)) (Exit.then (tail.wp P Q) Q))) else Exit.then ((Code.cond (.tmp 4) ca .skip).wp P (Exit.then (tail.wp P Q) Q)) (Exit.then (tail.wp P Q) Q) .normal (a.put o1.dst undef) w)
              (Q := Exit.then ((Code.cond (.tmp 4) ca .skip).wp P (Exit.then (tail.wp P Q) Q)) (Exit.then (tail.wp P Q) Q)) ?_
            · split
              · rename_i hw
                rw [if_pos hw] at hstep
                exact .inl hstep
              · rename_i hw
                rw [if_neg hw] at hstep
                exact hstep
            · rintro a2 w2 ⟨J2, loc2, φ2, x2⟩
              have hv3 := x2.env 3 (.list es' xs) rfl
              simp only [VRel, ImmV] at hv3
              obtain ⟨ad, cap, hv3, hcap, hmem⟩ := hv3
              obtain ⟨g1, g2, g3⟩ := cmp_nil (a := a2) (w := w2) d1 (ad := ad) (len := xs.length) (cap := cap) hv3
              have hwant : Region.wanted o1 (yielded ops a2.tmps) = true := by simp [Region.wanted, g3]
              rw [if_pos hwant]
              left
              unfold Oper.wp
              rw [g1]
              simp only [Oper.upon]
              rw [g2]
              have x3 := x2.put (d := 4) (v := .bool ad.isNone) (lv := .bool ad.isNone) (by rw [hnt]; exact d2) rfl
              have hc4 : (a2.put (some 4) (.bool ad.isNone)).eval (.tmp 4) = .bool ad.isNone := x3.env 4 (.bool ad.isNone) rfl
              refine wp_cond hc4 ?_
              cases ad with
              | none =>
                have hx0 : xs = [] := by
                  rcases hmem with h | ⟨b, off, cs, ty, fr, e, _⟩
                  · exact h
                  · cases e
                subst hx0
                simp only [Option.isNone_none, if_true]
                refine code_ok (c := c) (no_sig P) hm (cloneNil es') ca (s := ⟨_, _⟩) (s' := ⟨(2, .nil es') :: _, []⟩) (e := .ret) c2 rfl x3.sr (fun a' w' hs => ?_)
                refine hQr a' w' ?_
                obtain ⟨J4, loc4, φ4, x4⟩ := hs
                obtain ⟨J5, loc5, φ5, x5⟩ := x4.mat (s := 2) (n := 7000) (es := es') rfl rfl
                refine (((x5.kill 5000).sameLook (H' := [(7000, some (cpy [])), (5000, none), (5000, some [])]) (fun n => ?_)).weaken (fun s v hs => ?_)).sr
                · simp only [look]
                  by_cases e5 : n = 7000
                  · subst e5; simp [cpy]
                  · by_cases e6 : n = 5000 <;> simp [e5, e6]
                · simp only [look_cons] at hs ⊢
                  split at hs
                  · rename_i e
                    right
                    rw [if_pos e]
                    exact hs
                  · simp [look] at hs
              | some a0 =>
                simp only [Option.isNone_some, Bool.false_eq_true, if_false]
                refine wp_skip ?_
                have hrun : runC (fun _ _ _ => none) (cloneTail es' bytes) ⟨[(4, .bool false), (3, .list es' xs), (2, .nil es'), (0, .list es' xs)], []⟩ = some (.ret, ⟨[(2, .sl es' 7000 0 xs.length), (7, .sl es' 7000 0 xs.length), (6, .list es' xs), (5, .sl es' 5000 0 0), (4, .bool false), (3, .list es' xs), (2, .nil es'), (0, .list es' xs)], [(7000, some (cpy xs)), (5000, none), (5000, some [])]⟩) := by
                  have happ : appSrc es' [(5000, some ([] : Rows))] false (.list es' xs) = some (cpy xs, []) := by
                    simp only [appSrc, if_true, cpy]
                    split <;> rfl
                  simp [cloneTail, runC, runR, runQ1, evE, evQ, fillP, packC, chop, freshN, look, Opd.ev, put, happ, live, vw, c4, hcl, hlen, thenK]
                exact code_ok (c := c) (no_sig P) hm (cloneTail es' bytes) tail (s := ⟨_, _⟩) (s' := ⟨_, _⟩) (e := .ret) c3 hrun x3.sr (fun a' w' hs => hQr a' w' (by
                  obtain ⟨J4, loc4, φ4, x4⟩ := hs
                  refine (x4.weaken (fun s v hs => ?_)).sr
                  simp only [look_cons] at hs ⊢
                  split at hs
                  · rename_i e
                    right
                    rw [if_pos e]
                    exact hs
                  · simp [look] at hs))
        · cases c1
      · cases hcode
    · cases hr
  · cases hr
end
end Go.Lev
