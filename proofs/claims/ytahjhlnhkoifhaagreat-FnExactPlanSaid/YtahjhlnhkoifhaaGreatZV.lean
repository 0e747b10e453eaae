/- Arguments of any size, as logical values. -/
import Derived.Test.YtahjhlnhkoifhaaGreatZP
import Derived.SizedLaws
import Derived.ChangeArms
import Derived.Deep.Slices
set_option linter.unusedVariables false
set_option linter.unusedSimpArgs false
namespace Go.Lev

inductive Sh where
  | int (k : IntKind)
  | bool
  | str
  | sl (es bytes : Nat) (row : List Sh)
mutual
/-- A value of a shape. -/
def ShV : Sh → LV → Prop
  | .int k, v => ∃ n, v = .int k n ∧ (Lit.int k n).wf = true
  | .bool, v => ∃ b, v = .bool b
  | .str, v => ∃ s, v = .str s ∧ s.size ≤ reachBytes
  | .sl es bytes row, v => ∃ xs : Rows, v = .list es xs ∧ xs.length * bytes ≤ reachBytes ∧ ∀ r, r ∈ xs → ShC row r
def ShC : List Sh → List LV → Prop
  | [], cs => cs = []
  | s :: ss, cs => ∃ c r, cs = c :: r ∧ ShV s c ∧ ShC ss r
end
theorem ShC_app : ∀ {as bs : List Sh} {cs ds : List LV}, ShC as cs → ShC bs ds → ShC (as ++ bs) (cs ++ ds)
  | [], bs, cs, ds, h, k => by
    simp only [ShC] at h
    subst h
    exact k
  | a :: as, bs, cs, ds, h, k => by
    simp only [ShC] at h
    obtain ⟨c, r, rfl, h1, h2⟩ := h
    simp only [List.cons_append, ShC]
    exact ⟨c, r ++ ds, rfl, h1, ShC_app h2 k⟩

def fieldsSh (f : TypeId → Option (List Sh)) (P : Program) : Nat → List Field → Option (List Sh)
  | _, [] => some []
  | off, fd :: fs => (f fd.type).bind fun a => if fd.offset = off ∧ P.cellsOf fd.type = a.length then (fieldsSh f P (off + a.length) fs).bind fun b => some (a ++ b) else none
def shOf (P : Program) : Nat → TypeId → Option (List Sh)
  | 0, _ => none
  | n + 1, t => match P.underlying t with
    | some .bool => some [.bool]
    | some (.int k) => some [.int k]
    | some .string => some [.str]
    | some (.slice e) => (shOf P n e).bind fun row => if 0 < P.cellsOf e then some [.sl (P.cellsOf e) (P.bytesOf e) row] else none
    | some (.struct fs) => (fieldsSh (shOf P n) P 0 fs.toList).bind fun a => if a.length = P.cellsOf t then some a else none
    | _ => none

theorem ImmR_of_get {w : World} {imm : Nat → Prop} {es : Nat} : ∀ {xs : Rows} {vs : List Value}, (∀ r, r ∈ xs → r.length = es) → (∀ i r, xs[i]? = some r → ImmC w imm r (vs.drop (i * es))) → ImmR w imm xs vs
  | [], _, _, _ => trivial
  | r :: xs, vs, hl, h => by
    simp only [ImmR]
    refine ⟨by simpa using h 0 r rfl, ImmR_of_get (fun r' hr' => hl r' (List.mem_cons_of_mem _ hr')) (fun i r' hr' => ?_)⟩
    have := h (i + 1) r' (by simpa using hr')
    rw [List.drop_drop, hl r (by simp)]
    rwa [Nat.add_mul, Nat.one_mul, Nat.add_comm] at this
theorem ImmC_app {w : World} {imm : Nat → Prop} : ∀ {as bs : List LV} {vs : List Value}, ImmC w imm as vs → ImmC w imm bs (vs.drop as.length) → ImmC w imm (as ++ bs) vs
  | [], bs, vs, _, h => by simpa using h
  | a :: as, bs, vs, h, k => by
    simp only [ImmC] at h
    obtain ⟨v, t, rfl, h1, h2⟩ := h
    simp only [List.cons_append, ImmC]
    exact ⟨v, t, rfl, h1, ImmC_app h2 (by simpa using k)⟩

section
variable {H : Type} {enc : TypeId × Value → H} {P : Program} {w : World} {base : Nat} {spare : Nat → Bool} {held : Bool}

theorem trod_fields {n fuel : Nat} (ih : ∀ (t : TypeId) (shs : List Sh) (cs : List Value) (x : DataW H × List MemPlace), shOf P n t = some shs → DataW.trod enc P w base spare held fuel t cs = some x → (∀ m, m ∈ x.1.weights P t → m ≤ reachBytes) → ∃ lvs, ImmC w (fun b => b < w.heap.size) lvs cs ∧ lvs.length = cs.length ∧ ShC shs lvs) :
    ∀ (fs : List Field) (off : Nat) (shs : List Sh) (cs : List Value) (xs : List (DataW H × List MemPlace)), fieldsSh (shOf P n) P off fs = some shs → off + shs.length ≤ cs.length → xs.length = fs.length →
      (∀ (i : Nat) (f : Field), fs[i]? = some f → DataW.trod enc P w base spare held fuel f.type ((cs.drop f.offset).take (P.cellsOf f.type)) = xs[i]?) → (∀ m, m ∈ DataW.weightsEach P (fs.map (·.type)) (xs.map (·.1)) → m ≤ reachBytes) →
      ∃ lvs, ImmC w (fun b => b < w.heap.size) lvs (cs.drop off) ∧ lvs.length = shs.length ∧ ShC shs lvs
  | [], off, shs, cs, xs, hs, hl, hx, h, hw => by
    obtain rfl := Option.some.inj hs
    exact ⟨[], trivial, rfl, by simp [ShC]⟩
  | fd :: fs, off, shs, cs, [], hs, hl, hx, h, hw => by simp at hx
  | fd :: fs, off, shs, cs, x :: xs, hs, hl, hx, h, hw => by
    simp only [fieldsSh] at hs
    obtain ⟨a, ha, hs⟩ := Option.bind_eq_some_iff.1 hs
    split at hs
    · rename_i hc
      obtain ⟨b, hb, hs⟩ := Option.bind_eq_some_iff.1 hs
      obtain rfl := Option.some.inj hs
      obtain ⟨rfl, hca⟩ := hc
      rw [List.length_append] at hl
      simp only [List.map_cons, DataW.weightsEach, List.mem_append] at hw
      obtain ⟨l1, k1, k2, k3⟩ := ih fd.type a _ x ha (by simpa using h 0 fd rfl) (fun m hm => hw m (.inl hm))
      obtain ⟨l2, j1, j2, j3⟩ := trod_fields ih fs (fd.offset + a.length) b cs xs hb (by omega) (by simpa using hx) (fun i f hf => by simpa using h (i + 1) f (by simpa using hf)) (fun m hm => hw m (.inr hm))
      have hlen : l1.length = a.length := by
        rw [k2, List.length_take, List.length_drop, hca]
        omega
      refine ⟨l1 ++ l2, ImmC_app (ImmC_vals ?_ k1) ?_, by simp [hlen, j2], ShC_app k3 j3⟩
      · rw [hlen, List.take_take, hca, Nat.min_self]
      · rw [hlen, List.drop_drop]
        exact j1
    · cases hs

theorem weightsAll_mem {e : TypeId} : ∀ {ds : List (DataW H)} {i : Nat} {d : DataW H}, ds[i]? = some d → ∀ m, m ∈ d.weights P e → m ∈ DataW.weightsAll P e ds
  | [], _, _, h, _, _ => by simp at h
  | d0 :: ds, 0, d, h, m, hm => by
    obtain rfl := Option.some.inj (show some d0 = some d from h)
    simp only [DataW.weightsAll, List.mem_append]
    exact .inl hm
  | d0 :: ds, i + 1, d, h, m, hm => by
    simp only [DataW.weightsAll, List.mem_append]
    exact .inr (weightsAll_mem (i := i) (by simpa using h) m hm)

theorem trod_sh : ∀ (n fuel : Nat) (t : TypeId) (shs : List Sh) (cs : List Value) (x : DataW H × List MemPlace), shOf P n t = some shs → DataW.trod enc P w base spare held fuel t cs = some x → (∀ m, m ∈ x.1.weights P t → m ≤ reachBytes) →
    ∃ lvs, ImmC w (fun b => b < w.heap.size) lvs cs ∧ lvs.length = cs.length ∧ ShC shs lvs
  | 0, _, _, _, _, _, h, _, _ => by simp [shOf] at h
  | n + 1, fuel, t, shs, cs, x, h, ht, hw => by
    simp only [shOf] at h
    split at h
    · rename_i hu
      obtain rfl := Option.some.inj h
      obtain ⟨b, rfl, rfl⟩ := DataW.trod_bool hu ht
      exact ⟨[.bool b], by simp [ImmC, ImmV], rfl, by simp [ShC, ShV]⟩
    · rename_i k hu
      obtain rfl := Option.some.inj h
      obtain ⟨m, rfl, rfl, hwf⟩ := DataW.trod_int hu ht
      exact ⟨[.int k m], by simp [ImmC, ImmV], rfl, by simp [ShC, ShV, hwf]⟩
    · rename_i hu
      obtain rfl := Option.some.inj h
      obtain ⟨s, rfl, rfl, _⟩ := DataW.trod_string hu ht
      refine ⟨[.str s], by simp [ImmC, ImmV], rfl, ?_⟩
      have := hw s.size (by simp [DataW.weights])
      simp [ShC, ShV, this]
    · rename_i e hu
      obtain ⟨row, hrow, h⟩ := Option.bind_eq_some_iff.1 h
      split at h
      · rename_i hpos
        obtain rfl := Option.some.inj h
        rcases DataW.trod_slice hu ht with ⟨rfl, rfl⟩ | ⟨a, len, cap, elems, rest, n', hf, rfl, rfl, hb, hlc, hcap, hlen, hel, hsp, hns⟩
        · refine ⟨[.list (P.cellsOf e) []], ?_, rfl, ?_⟩
          · simp only [ImmC, ImmV]
            exact ⟨_, [], rfl, ⟨none, 0, by simp, by simp, .inl (by trivial)⟩, trivial⟩
          · simp only [ShC, ShV]
            exact ⟨_, [], rfl, ⟨[], rfl, by simp, by simp⟩, rfl⟩
        · have hwl : (elems.length + rest.length) * P.bytesOf e ≤ reachBytes := by
            have := hw ((elems.length + rest.length) * P.bytesOf e) (by simp [DataW.weights, hu])
            exact this
          have one : ∀ i, i < len → ∃ row' : Row, (∃ cs', w.cells? base (a.add (i * P.cellsOf e)) (P.cellsOf e) = some cs' ∧ ImmC w (fun b => b < w.heap.size) row' cs') ∧ row'.length = P.cellsOf e ∧ ShC row row' := by
            intro i hi
            have h1 := hel i hi
            rw [List.getElem?_eq_getElem (by omega)] at h1
            obtain ⟨cs', h2, h3⟩ := Option.bind_eq_some_iff.1 h1
            obtain ⟨lvs, k1, k2, k3⟩ := trod_sh n n' e row cs' _ hrow h3 (fun m hm => hw m (by
              simp only [DataW.weights, hu, List.mem_cons, List.mem_append]
              right; left
              exact weightsAll_mem (i := i) (d := elems[i].1) (by simp [List.getElem?_eq_getElem (show i < elems.length by omega)]) m hm))
            refine ⟨lvs, ⟨cs', h2, k1⟩, ?_, k3⟩
            rw [k2]
            exact (World.cells?_some h2).2.1
          obtain ⟨f, hfr⟩ := Deep.choose_lt (α := Row) one
          have hxl : ((List.range len).map f).length = len := by simp
          have hxg : ∀ i r, ((List.range len).map f)[i]? = some r → i < len ∧ r = f i := by
            intro i r hr
            have q : i < len := by
              have := (List.getElem?_eq_some_iff.1 hr).1
              rwa [hxl] at this
            refine ⟨q, ?_⟩
            rw [List.getElem?_map, List.getElem?_range q] at hr
            exact (Option.some.inj hr).symm
          have hall : ∀ r, r ∈ (List.range len).map f → r.length = P.cellsOf e ∧ ShC row r := by
            intro r hr
            obtain ⟨i, hi⟩ := List.getElem?_of_mem hr
            obtain ⟨q1, rfl⟩ := hxg i r hi
            exact (hfr i q1).2
          refine ⟨[.list (P.cellsOf e) ((List.range len).map f)], ?_, rfl, ?_⟩
          · simp only [ImmC]
            refine ⟨_, [], rfl, ?_, trivial⟩
            simp only [ImmV]
            refine ⟨some a, cap, by rw [hxl], by rw [hxl]; exact hlc, ?_⟩
            by_cases h0 : len = 0
            · left; subst h0; rfl
            · right
              obtain ⟨⟨cs0, c1, c2⟩, c3, c4⟩ := hfr 0 (by omega)
              obtain ⟨_, g2, g3⟩ := World.cells?_some c1
              have hcell := g3 0 hpos
              rw [List.getElem?_eq_getElem (by omega)] at hcell
              simp only [Nat.zero_mul, Addr.add, if_true] at hcell
              unfold World.cell? at hcell
              split at hcell
              · rename_i c ty fr hheap
                split at hcell
                · cases hcell
                · rename_i hspot
                  have hs : a.spot = none := by simpa using hspot
                  have ha : a = ⟨a.block, a.off, none⟩ := by cases a; simp_all
                  refine ⟨a.block, a.off, c, ty, fr, by rw [← ha], (Array.getElem?_eq_some_iff.1 hheap).1, hheap, fun r hr => (hall r hr).1, ?_⟩
                  refine ImmR_of_get (fun r hr => (hall r hr).1) (fun i r hr => ?_)
                  obtain ⟨q1, rfl⟩ := hxg i r hr
                  obtain ⟨⟨cs', d1, d2⟩, d3, d4⟩ := hfr i q1
                  obtain ⟨_, e2, e3⟩ := World.cells?_some d1
                  refine ImmC_vals ?_ d2
                  rw [d3, List.take_of_length_le (by omega : cs'.length ≤ P.cellsOf e)]
                  apply List.ext_getElem?
                  intro j
                  by_cases hj : j < P.cellsOf e
                  · rw [List.getElem?_take, if_pos hj, List.getElem?_drop, List.getElem?_drop, ← e3 j hj, ha]
                    rw [Deep.add_add, Addr.add_lit, cell_of_heap hheap]
                    simp [Nat.add_assoc]
                  · rw [List.getElem?_eq_none (by rw [List.length_take]; omega), List.getElem?_eq_none (by omega)]
              · cases hcell
          · simp only [ShC, ShV]
            refine ⟨_, [], rfl, ⟨_, rfl, ?_, fun r hr => (hall r hr).2⟩, rfl⟩
            rw [hxl]
            refine Nat.le_trans (Nat.mul_le_mul_right _ ?_) hwl
            omega
      · cases h
    · rename_i fs hu
      obtain ⟨a, ha, h⟩ := Option.bind_eq_some_iff.1 h
      split at h
      · rename_i hal
        obtain rfl := Option.some.inj h
        obtain ⟨xs, n', hf, rfl, hcl, hxl, hx⟩ := DataW.trod_struct hu ht
        obtain ⟨lvs, k1, k2, k3⟩ := trod_fields (n := n) (fuel := n') (fun t shs cs x h1 h2 h3 => trod_sh n n' t shs cs x h1 h2 h3) fs.toList 0 a cs xs ha (by omega) (by simpa using hxl) (fun i f hf => hx i f (by simpa using hf)) (fun m hm => hw m (by
          simp only [DataW.weights, hu]
          exact hm))
        exact ⟨lvs, by simpa using k1, by omega, k3⟩
      · cases h
    · cases h
end
end Go.Lev
