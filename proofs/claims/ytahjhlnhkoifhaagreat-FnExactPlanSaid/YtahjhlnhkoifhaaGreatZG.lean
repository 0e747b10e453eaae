/- Operations that make or write memory: each against the machine's. -/
import Derived.Test.YtahjhlnhkoifhaaGreatZF
set_option linter.unusedVariables false
set_option linter.unusedSimpArgs false
namespace Go.Lev

def Good (P : Program) (c : Ctx) (env : Env) (H : Heap) (o : Oper) (a : Act) (w : World) (lv : LV) : Prop :=
  OpStep P o a w fun a' w' => SR c (put o.dst lv env) H a' w'

section
variable {P : Program} {c : Ctx} {J : Nat → Prop} {loc : Nat → Loc} {φ : Nat → List Nat} {env : Env} {H : Heap} {a : Act} {w : World} {S : Sig} {o : Oper}

theorem tySize_run {t : TypeId} {n : Nat} (h : tySize P t = some n) : (sizeOf t).run P w = .ok n w := by
  unfold tySize at h
  cases hi : P.info? t with
  | none => rw [hi] at h; cases h
  | some i =>
    rw [hi] at h
    have : i.size = n := by simpa using h
    simp [sizeOf, typeInfo, hi, this]

/-- A result that goes into a temporary. -/
theorem SRx.sr (h : SRx c J loc φ env H a w) : SR c env H a w := ⟨_, _, _, h⟩
theorem good_val {v : Value} {w' : World} {lv : LV} {H' : Heap} {J' loc' φ'} (h : (execOp a.eval o).run P w = .ok (.value v) w') (hs : SRx c J' loc' φ' env H' a w') (hv : VRel w' (Im c J') loc' lv v) (hd : ∀ d, o.dst = some d → d < c.nt) : Good P c env H' o a w lv := by
  refine OpStep.of_run h ?_
  cases hdst : o.dst with
  | none => exact hs.sr
  | some d => exact (hs.put (hd d hdst) hv).sr

theorem rows1 {imm : Nat → Prop} {z : List LV} {vs : List Value} {fp : List Nat} (h : OwnC w imm loc z vs fp) : OwnR w imm loc [z] vs fp := by
  simp only [OwnR]
  exact ⟨fp, [], by simp, h, rfl⟩

theorem e_new (h : SRx c J loc φ env H a w) {n : Nat} (hn : freshN H n = true) {z : List LV} (hz : z ≠ []) {cells : Array Value} {ty : TypeId} (hc : VC w (Im c J) loc z cells.toList) (h1 : ∀ u ∈ cells.toList, u.oneCell' = true)
    (hr : (execOp a.eval o).run P w = .ok (.value (.pointer (some ⟨w.heap.size, 0, none⟩))) (w.alloc (.cells cells ty))) (hd : ∀ d, o.dst = some d → d < c.nt) : Good P c env ((n, some [z]) :: H) o a w (.ptr n 0 0) := by
  have hl := VC_len hc
  have hpos : 0 < z.length := List.length_pos_iff.2 hz
  have := h.new (ty := ty) (cs := cells) (x := [z]) hn hpos (by simp) (by simp at hl ⊢; omega) (rows1 (VC_Own hc h1)) List.nodup_nil (fun _ hb => by cases hb)
  refine good_val hr this ?_ hd
  simp only [VRel, upd_same, PtrRel]
  simp

theorem e_alloc (h : SRx c J loc φ env H a w) {z : Row} {t : TypeId} (ho : o.op = .alloc t) (hz : tyZero P t z = true) (hd : ∀ d, o.dst = some d → d < c.nt) {d : Nat} {r : LV × Heap} (he : evE S env H d (.alloc z) = some r) : Good P c env r.2 o a w r.1 := by
  simp only [evE] at he
  split at he
  · rename_i hc
    obtain rfl := Option.some.inj he
    obtain ⟨inf, v, hi, hv, hzo, hsz, hpos⟩ := tyZero_spec hz
    obtain ⟨k1, k2⟩ := zOk_rel (w := w) (imm := Im c J) (loc := loc) hzo
    have hzv : (zeroValue t).run P w = .ok v w := by simp [zeroValue, typeInfo, hi, hv]
    exact e_new h hc.1 hc.2 (ty := t) k1 k2 (by simp [execOp, ho, Instr.alloc, hzv, newVar, newRow]) hd
  · cases he
theorem e_box (h : SRx c J loc φ env H a w) {n : Nat} {x : Opd} {t : TypeId} {x' : Operand} (ho : o.op = .box t x') (hx : opdOk x x' = true) (hd : ∀ d, o.dst = some d → d < c.nt) {d : Nat} {r : LV × Heap} (h0 : 0 < n) (he : evE S env H d (.box n x) = some r) : Good P c env r.2 o a w r.1 := by
  simp only [evE] at he
  cases hc : cellsOf (x.ev env) with
  | none => rw [hc] at he; cases he
  | some cs =>
    rw [hc] at he
    simp only [Option.bind_some] at he
    split at he
    · rename_i hcond
      obtain rfl := Option.some.inj he
      obtain ⟨k1, k2⟩ := cellsOf_rel (opd_rel h.env hx) hc
      exact e_new h hcond.1 (by rintro rfl; rw [← hcond.2] at h0; exact absurd h0 (by simp)) (ty := t) k1 k2 (by simp [execOp, ho, Instr.box, newVar, newRow]) hd
    · cases he

theorem e_store (h : SRx c J loc φ env H a w) {n : Nat} {pk : Bool} {x v : Opd} {t : TypeId} {x' v' : Operand} (ho : o.op = .store t x' v') (hdst : o.dst = none) (hz : tySize P t = some n) (hx : opdOk x x' = true) (hv : opdOk v v' = true)
    {d : Nat} {r : LV × Heap} (he : evE S env H d (.store n pk x v) = some r) : Good P c env r.2 o a w r.1 := by
  have hxr := opd_rel h.env hx
  have hvr := opd_rel h.env hv
  simp only [evE] at he
  split at he
  · rename_i ob e j hxe
    rw [hxe] at hxr
    simp only [VRel] at hxr
    cases hc : cellsOf (v.ev env) with
    | none => rw [hc] at he; cases he
    | some cs =>
      rw [hc] at he
      simp only [Option.bind_some] at he
      obtain ⟨k1, k2⟩ := cellsOf_rel hvr hc
      have hlen := VC_len k1
      split at he
      · rename_i hn
        -- what stands behind both kinds of storing
        have key : ∀ (H1 : Heap) (cs1 : List LV) (f : List Nat) (y : Rows) (rw1 : Row), SRx c J loc φ env H1 a w → OwnC w (Im c J) loc cs1 (a.eval v').cells.toList f → cs1.length = cs.length → f.Nodup →
            (∀ b, b ∈ f → (b ∈ c.O0 ∨ c.w0.heap.size ≤ b) ∧ b < w.heap.size ∧ ¬ J b ∧ ∀ m y, live H1 m = some y → b ∉ φ m) → live H1 ob = some y → y[e]? = some rw1 → j + n ≤ rw1.length →
            Good P c env ((ob, some (y.set e (splice rw1 j cs1))) :: H1) o a w .undef := by
          intro H1 cs1 f y rw1 hs hC hl1 hnd hf hlv hre hjl
          obtain ⟨b, off, cur, ty, φ', e1, e2, e3, e4, e5⟩ := hs.write hlv hre (by omega) hxr hC (by omega) hnd hf
          have hst := run_storeCells_at P b off ty (a.eval v').cells.toList 0 cur w e2 (by simpa using e3) k2
          have hsz : (a.eval v').cells.size = n := by rw [← hn, ← hlen]; simp
          refine OpStep.of_skip (w' := w.setRow b (splice cur.toList off (a.eval v').cells.toList).toArray) ?_ ?_
          · simp only [execOp, ho, e1, Instr.storeAt, Sem.run_bind, run_sureAddr, Result.andThen_ok, storeVar, tySize_run hz, hsz, ne_eq, not_true_eq_false, if_false, Sem.run_pure]
            simp only [Nat.add_zero] at hst
            rw [hst]
            rfl
          · rw [hdst]
            exact e4.sr
        cases pk
        · simp only [Bool.false_eq_true, if_false] at he
          cases hlv : live H ob with
          | none => rw [hlv] at he; cases he
          | some y =>
            rw [hlv] at he
            simp only [Option.bind_some] at he
            cases hre : y[e]? with
            | none => rw [hre] at he; cases he
            | some rw1 =>
              rw [hre] at he
              simp only [Option.bind_some] at he
              split at he
              · rename_i hjl
                obtain rfl := Option.some.inj he
                exact key H cs [] y rw1 h (VC_Own k1 k2) rfl List.nodup_nil (fun _ hb => by cases hb) hlv hre hjl
              · cases he
        · simp only [if_true] at he
          cases hp : packC H cs with
          | none => rw [hp] at he; cases he
          | some p =>
            rw [hp] at he
            simp only [Option.bind_some] at he
            obtain ⟨ns, f, g1, g2, g3, g4, g5, _⟩ := packC_rel h.hok k1 k2 hp
            rw [g1] at he
            have hs := SRx.kills ns h
            cases hlv : live (killed ns ++ H) ob with
            | none => rw [hlv] at he; cases he
            | some y =>
              rw [hlv] at he
              simp only [Option.bind_some] at he
              cases hre : y[e]? with
              | none => rw [hre] at he; cases he
              | some rw1 =>
                rw [hre] at he
                simp only [Option.bind_some] at he
                split at he
                · rename_i hjl
                  obtain rfl := Option.some.inj he
                  refine key _ p.1 f y rw1 hs g2 g5 g3 ?_ hlv hre hjl
                  intro b hb
                  obtain ⟨ob', x', q1, q2, q3⟩ := g4 b hb
                  obtain ⟨s1, s2, s3⟩ := h.rng ob' x' q2 b q3
                  refine ⟨s1, s2, s3, fun m y hm hk => ?_⟩
                  obtain ⟨t1, t2⟩ := live_of_kills hm
                  exact h.disj ob' m x' y (fun e => t1 (e ▸ q1)) q2 t2 b q3 hk
                · cases he
      · cases he
  · cases he

theorem e_eload (h : SRx c J loc φ env H a w) {n : Nat} {ag : Bool} {x : Opd} {t : TypeId} {x' : Operand} (ho : o.op = .load t x') (hz : tySize P t = some n) (ha : tyAgg P t = some ag) (hn : ag = true ∨ n = 1) (hx : opdOk x x' = true) (hd : ∀ d, o.dst = some d → d < c.nt)
    {d : Nat} {r : LV × Heap} (he : evE S env H d (.eload n ag x) = some r) : Good P c env r.2 o a w r.1 := by
  have hxr := opd_rel h.env hx
  simp only [evE] at he
  split at he
  · rename_i ob e j hxe
    rw [hxe] at hxr
    simp only [VRel] at hxr
    cases hlv : live H ob with
    | none => rw [hlv] at he; cases he
    | some y =>
      rw [hlv] at he
      simp only [Option.bind_some] at he
      cases hre : y[e]? with
      | none => rw [hre] at he; cases he
      | some r1 =>
        rw [hre] at he
        simp only [Option.bind_some] at he
        split at he
        · rename_i hjl
          split at he
          · rename_i hfr
            rw [unpackC_adopt] at he hfr
            cases hcv : cellsVal ag (adopt ldo (d * 1000) ((r1.drop j).take n)).1 with
            | none => rw [hcv] at he; cases he
            | some lv =>
              rw [hcv] at he
              obtain rfl := Option.some.inj he
              have hobj := h.obj ob y hlv
              have hnd0 := h.nodup ob y hlv
              have hrng := h.rng ob y hlv
              generalize hloc : loc ob = l at hxr hobj
              cases l with
              | unk => exact hxr.elim
              | dead => exact hobj.elim
              | nil => exact hxr.elim
              | «at» b base esz cnt sz =>
                obtain ⟨hcn, hpos, hall, cur, ty, fps, hb, hsz, hfit, hfp, hR⟩ := hobj
                obtain ⟨hel, hrel⟩ := List.getElem?_eq_some_iff.1 hre
                have hrl : r1.length = esz := hall r1 (hrel ▸ List.getElem_mem hel)
                have hql' : ((r1.drop j).take n).length = n := by rw [List.length_take, List.length_drop]; omega
                obtain ⟨hin, A, M, B, e1, e3, e2⟩ := OwnR_open hpos hall hR hre hjl
                rw [List.drop_drop, ← Nat.add_assoc] at e3
                have hv : a.eval x' = .pointer (some ⟨b, base + e * esz + j, none⟩) := hxr
                rw [List.length_drop] at hin
                have hsub : ∀ k, k ∈ M → k ∈ φ ob := fun k hk => by rw [hfp, e1]; simp [hk]
                have hkill : ∀ m y, live ((ob, none) :: H) m = some y → m ≠ ob ∧ live H m = some y := by
                  intro m y hm
                  rw [live_cons] at hm
                  split at hm
                  · cases hm
                  · rename_i e; exact ⟨e, hm⟩
                have hnd1 := hnd0
                rw [hfp, List.nodup_cons, e1] at hnd1
                have hMn : M.Nodup := (List.sublist_append_right A M).nodup ((List.sublist_append_left (A ++ M) B).nodup hnd1.2)
                have hne : ∀ m, look ((ob, none) :: H) m = none ↔ look H m = none := by
                  intro m
                  rw [look_cons]
                  split
                  · rename_i e; subst e; simp [look_of_live hlv]
                  · exact Iff.rfl
                have hfr' : freshAll ((ob, none) :: H) (adopt ldo (d * 1000) ((r1.drop j).take n)).2 = true := by
                  unfold freshAll at hfr ⊢
                  rw [List.all_eq_true] at hfr ⊢
                  intro p hp
                  have := hfr p hp
                  simp only [freshN, Bool.and_eq_true, Option.isNone_iff_eq_none, decide_eq_true_eq] at this ⊢
                  exact ⟨⟨(hne _).2 this.1.1, this.1.2⟩, this.2⟩
                obtain ⟨loc', φ', g1, g2, g3, g4, g5, g6⟩ := (h.kill ob).adopt (g := ldo) (imm1 := Im c J) (loc1 := loc)
                  (fun c0 v f _ hv lc hlc => VRel_loc (fun m => (hlc m).imp id .inl) _ _ (ldo_rel hv)) e3 hMn
                  (fun k hk => by
                    obtain ⟨q1, q2, q3⟩ := hrng k (hsub k hk)
                    refine ⟨q1, q2, q3, fun m z hm => ?_⟩
                    obtain ⟨t1, t2⟩ := hkill m z hm
                    exact h.disj ob m y z (fun e => t1 e.symm) hlv t2 k (hsub k hk)) hfr' (.inl (fun _ k => k))
                have hnl : (adopt ldo (d * 1000) ((r1.drop j).take n)).1.length = n := by
                  have := VC_len g2
                  rw [← this, List.length_take, hql', List.length_drop]
                  have : cur.toList.length = cur.size := Array.length_toList
                  omega
                obtain ⟨q, hq⟩ : ∃ q, q = adopt ldo (d * 1000) ((r1.drop j).take n) := ⟨_, rfl⟩
                rw [← hq] at hcv g1 g2 g6 hnl hfr' ⊢
                have hqo : look q.2 ob = none := by
                  by_cases k : look q.2 ob = none
                  · exact k
                  · have := (fresh_look hfr' k).1
                    rw [look_cons, if_pos rfl] at this
                    cases this
                have hlob : loc' ob = .at b base esz cnt sz := by rw [(g4 ob (by rw [look_cons, if_pos rfl]; simp)).1, hloc]
                have hlt : cur.toList.length = cur.size := Array.length_toList
                have hmid : ((cur.toList.drop (base + e * esz + j)).take n).length = n := by rw [List.length_take, List.length_drop]; omega
                rw [hql'] at g2 g3
                have hown := e2 loc' q.1 _ [] (fun m => (g5 m).imp id .inl) hnl hmid (VC_Own g2 g3)
                have hsp : splice (cur.toList.drop base) (e * esz + j) ((cur.toList.drop (base + e * esz + j)).take n) = cur.toList.drop base := by
                  have := splice_self (cur.toList.drop base) (e * esz + j) n (by rw [List.length_drop]; omega)
                  rw [List.drop_drop, ← Nat.add_assoc] at this
                  exact this
                rw [hsp, List.append_nil] at hown
                have hfin := g1.add (n := ob) (x := y.set e (splice r1 j q.1)) (l := loc' ob) (fp := b :: (A ++ B)) (.inr rfl) (g1.nodead ob) (by
                    rw [live_append, hqo]
                    exact (live_cons ob none H ob).trans (if_pos rfl)) (by
                    rw [upd_self, hlob]
                    refine ⟨by simpa using hcn, hpos, ?_, cur, ty, _, hb, hsz, hfit, rfl, hown⟩
                    intro s hs
                    rcases List.mem_or_eq_of_mem_set hs with hs | rfl
                    · exact hall s hs
                    · rw [splice_length _ _ _ (by omega)]; exact hrl) (by
                    rw [List.nodup_cons]
                    have k1 := hnd1.1
                    have k2 := hnd1.2
                    simp only [List.mem_append, List.nodup_append] at k1 k2 ⊢
                    exact ⟨fun hh => k1 (hh.elim (fun h => .inl (.inl h)) .inr), k2.1.1, k2.2.1, fun a ha b hb => k2.2.2 a (.inl ha) b hb⟩) (by
                    intro k hk
                    have hko : k ∈ φ ob ∧ k ∉ M := by
                      rw [hfp, e1]
                      have k1 := hnd1.1
                      have k2 := hnd1.2
                      simp only [List.mem_append, List.nodup_append, List.mem_cons] at k1 k2 hk ⊢
                      rcases hk with rfl | hk | hk
                      · exact ⟨.inl rfl, fun h => k1 (.inl (.inr h))⟩
                      · exact ⟨.inr (.inl (.inl hk)), fun h => k2.1.2.2 k hk k h rfl⟩
                      · exact ⟨.inr (.inr hk), fun h => k2.2.2 k (.inr h) k hk rfl⟩
                    obtain ⟨q1, q2, q3⟩ := hrng k hko.1
                    refine ⟨q1, q2, q3, fun m z hm hkm => ?_⟩
                    rw [live_append] at hm
                    cases hlk : look q.2 m with
                    | some v =>
                      rw [hlk] at hm
                      have hm' : v = some z := hm
                      exact hko.2 (g6 m z (by unfold live; rw [hlk, hm']; rfl) k hkm)
                    | none =>
                      rw [hlk] at hm
                      obtain ⟨t1, t2⟩ := hkill m z hm
                      rw [(g4 m (by rw [look_cons, if_neg t1, look_of_live t2]; simp)).2] at hkm
                      exact h.disj ob m y z (fun e => t1 e.symm) hlv t2 k hko.1 hkm)
                rw [upd_self] at hfin
                have hfin2 := hfin.sameLook (H' := (ob, some (y.set e (splice r1 j q.1))) :: (q.2 ++ H)) (fun m => by
                  rw [look_cons, look_cons]
                  split
                  · rfl
                  · rename_i hm
                    rw [look_append, look_append, look_cons, if_neg hm])
                have hrun := run_loadVar (P := P) (w := w) hz ha hn b (base + e * esz + j) cur ty (0, 0) hb _ rfl hmid
                exact good_val (by simp only [execOp, ho, hv, Instr.loadAt, Sem.run_bind, run_sureAddr, hrun, Result.andThen_ok, Sem.run_pure]) hfin2 (val_of_cells hn hnl g2 g3 hcv) hd
          · cases he
        · cases he
  · cases he

/-! ### New slices -/
theorem OwnR_mk {imm : Nat → Prop} {esz : Nat} : ∀ {xs : Rows} {vs : List Value}, (∀ r ∈ xs, r.length = esz) → (∀ i r, xs[i]? = some r → OwnC w imm loc r (vs.drop (i * esz)) []) → OwnR w imm loc xs vs []
  | [], _, _, _ => by simp [OwnR]
  | r :: xs, vs, hl, h => by
    simp only [OwnR]
    refine ⟨[], [], rfl, by simpa using h 0 r rfl, OwnR_mk (esz := esz) (fun q hq => hl q (by simp [hq])) (fun i q hq => ?_)⟩
    have := h (i + 1) q (by simpa using hq)
    rw [List.drop_drop, hl r (by simp)]
    rwa [Nat.add_mul, Nat.one_mul, Nat.add_comm] at this
theorem madeCells_get (z : Array Value) (n i : Nat) (h : i < n) : (madeCells z n).toList[i]? = some (z[i % z.size]!) := by
  simp [madeCells, h]
theorem made_rows {imm : Nat → Prop} {z : List LV} {zc : Array Value} (k : Nat) (hc : VC w imm loc z zc.toList) (h1 : ∀ u ∈ zc.toList, u.oneCell' = true) (hpos : 0 < z.length) : OwnR w imm loc (List.replicate k z) (madeCells zc (k * z.length)).toList [] := by
  have hl := VC_len hc
  have hsz : zc.size = z.length := by simpa using hl
  refine OwnR_mk (esz := z.length) (fun r hr => by rw [(List.mem_replicate.1 hr).2]) (fun i r hr => ?_)
  obtain ⟨hi, hre⟩ := List.getElem?_eq_some_iff.1 hr
  rw [List.length_replicate] at hi
  have hrz : r = z := by rw [← hre, List.getElem_replicate]
  subst hrz
  refine OwnC_vals ?_ (VC_Own hc h1)
  have hi' : i < k := by simpa using hi
  have hm : (i + 1) * r.length ≤ k * r.length := Nat.mul_le_mul_right _ hi'
  rw [Nat.add_mul, Nat.one_mul] at hm
  apply List.ext_getElem?
  intro j
  rw [List.getElem?_take, List.getElem?_take, List.getElem?_drop]
  split
  · rename_i hj
    rw [madeCells_get _ _ _ (by omega)]
    have : (i * r.length + j) % zc.size = j := by rw [hsz, Nat.mul_comm, Nat.mul_add_mod, Nat.mod_eq_of_lt hj]
    rw [this]
    simp [hsz, hj, getElem!_pos]
  · rfl

theorem e_mks (h : SRx c J loc φ env H a w) {z : Row} {bytes : Nat} {l k : Opd} {t e : TypeId} {l' k' : Operand} {inf : TypeInfo} (ho : o.op = .makeSlice t l' k') (hu : P.underlying t = some (.slice e)) (hi : P.info? e = some inf) (hb : inf.bytes = bytes) (hb0 : 0 < bytes) (hz : tyZero P e z = true)
    (hlo : opdOk l l' = true) (hko : opdOk k k' = true) (hd : ∀ d, o.dst = some d → d < c.nt) {d : Nat} {r : LV × Heap} (he : evE S env H d (.mks z bytes l k) = some r) : Good P c env r.2 o a w r.1 := by
  have hlr := opd_rel h.env hlo
  have hkr := opd_rel h.env hko
  simp only [evE] at he
  generalize l.ev env = lv at hlr he
  generalize k.ev env = kv at hkr he
  cases lv <;> simp only [asI, Option.bind_some, Option.bind_none] at he <;> try (cases he; done)
  rename_i k1 n
  cases kv <;> simp only [asI, Option.bind_some, Option.bind_none] at he <;> try (cases he; done)
  rename_i k2 m
  simp only [VRel] at hlr hkr
  split at he
  · rename_i hc
    obtain ⟨h0, rfl, hbn, hpos, hfr⟩ := hc
    obtain rfl := Option.some.inj he
    obtain ⟨inf', v, hi', hv, hzo, hsz, _⟩ := tyZero_spec hz
    rw [hi] at hi'
    obtain rfl := Option.some.inj hi'
    obtain ⟨g1, g2⟩ := zOk_rel (w := w) (imm := Im c J) (loc := loc) hzo
    have h63 : n ≤ 140737488355328 := by
      have : n * 1 ≤ n * (bytes : Int) := Int.mul_le_mul_of_nonneg_left (by omega) h0
      omega
    have hr := run_make (P := P) w t e inf v hu hi hv k1 k2 n n h0 (Int.le_refl _) (by rw [hb, Int.mul_comm]; omega) (by omega)
    rw [hsz] at hr
    have hs := h.new (n := d * 1000) (ty := e) (cs := madeCells v.cells (n.toNat * z.length)) (x := List.replicate n.toNat z) (esz := z.length) hfr hpos (fun r hr => by rw [(List.mem_replicate.1 hr).2]) (by simp [size_madeCells]) (made_rows _ g1 g2 hpos) List.nodup_nil (fun _ hb => by cases hb)
    refine good_val (v := .slice (some ⟨w.heap.size, 0, none⟩) n.toNat n.toNat) (by simp only [execOp, ho, hlr, hkr, Sem.run_bind, hr, Result.andThen_ok, Sem.run_pure]) hs ?_ hd
    simp only [VRel, upd_same, SlRel]
    refine ⟨by trivial, by simp, _, _, rfl, .inr ⟨by simp, by simp [size_madeCells], Nat.le_refl _⟩⟩
  · cases he

theorem chop_rows {imm : Nat → Prop} {esz : Nat} : ∀ {n : Nat} {cs : List LV} {vs : List Value} {fp : List Nat}, cs.length = n * esz → OwnC w imm loc cs vs fp → OwnR w imm loc (chop esz n cs) vs fp
  | 0, cs, vs, fp, hl, h => by
    have : cs = [] := List.eq_nil_of_length_eq_zero (by simpa using hl)
    subst this
    simpa [chop, OwnR, OwnC] using h
  | n + 1, cs, vs, fp, hl, h => by
    rw [Nat.add_mul, Nat.one_mul] at hl
    obtain ⟨f1, f2, rfl, h1, h2⟩ := OwnC_split esz (by omega) h
    simp only [chop, OwnR]
    have e : (cs.take esz).length = esz := by rw [List.length_take]; omega
    rw [e]
    exact ⟨f1, f2, rfl, h1, chop_rows (by rw [List.length_drop]; omega) h2⟩
theorem chop_len {esz : Nat} : ∀ {n : Nat} {cs : List LV}, (chop esz n cs).length = n
  | 0, _ => rfl
  | n + 1, cs => by simp [chop, chop_len]
theorem chop_all {esz : Nat} : ∀ {n : Nat} {cs : List LV}, cs.length = n * esz → ∀ r ∈ chop esz n cs, r.length = esz
  | 0, _, _, r, h => by simp [chop] at h
  | n + 1, cs, hl, r, h => by
    rw [Nat.add_mul, Nat.one_mul] at hl
    simp only [chop, List.mem_cons] at h
    rcases h with rfl | h
    · rw [List.length_take]; omega
    · exact chop_all (by rw [List.length_drop]; omega) r h

theorem fillP_length {env : Env} : ∀ {ps : List (Nat × Nat × Opd)} {z r : Row}, fillP env z ps = some r → r.length = z.length
  | [], z, r, h => by obtain rfl := Option.some.inj h; rfl
  | (off, n, x) :: ps, z, r, h => by
    simp only [fillP] at h
    cases hc : cellsOf (x.ev env) with
    | none => rw [hc] at h; cases h
    | some cs =>
      rw [hc] at h
      simp only [Option.bind_some] at h
      split at h
      · rename_i hb
        rw [fillP_length h, splice_length _ _ _ (by omega)]
      · cases h

/-- What a slice literal's checks say. -/
structure SliceLit (P : Program) (t : TypeId) (len esz : Nat) (z : Row) (ps : List (Nat × Nat × Opd)) (ps' : List (Nat × Operand)) : Prop where
  ex : ∃ (e : TypeId) (inf : TypeInfo) (zv : Value), P.underlying t = some (.slice e) ∧ P.info? e = some inf ∧ inf.size = esz ∧ inf.zero = some zv ∧ len * esz ≤ 16777216 ∧ z.length = len * esz ∧ zOk z (madeCells zv.cells (len * esz)).toList = true
  place : placeOk P (fun i => some (i * esz, esz)) ps ps' = true
  pos : 0 < esz

theorem run_bslice {imm : Nat → Prop} (he : EnvRel w imm loc env a) {t : TypeId} {len esz : Nat} {z : Row} {ps : List (Nat × Nat × Opd)} {ps' : Array (Nat × Operand)} (ho : o.op = .buildSlice t len ps') (hs : SliceLit P t len esz z ps ps'.toList) {r : Row} (hf : fillP env z ps = some r) :
    ∃ cells ty, (execOp a.eval o).run P w = .ok (.value (.slice (some ⟨w.heap.size, 0, none⟩) len len)) (w.alloc (.cells cells ty)) ∧ VC w imm loc r cells.toList ∧ (∀ u ∈ cells.toList, u.oneCell' = true) ∧ r.length = len * esz := by
  obtain ⟨e, inf, zv, hu, hi, hz, hzv, hle, hzl, hzo⟩ := hs.ex
  obtain ⟨k1, k2⟩ := zOk_rel (w := w) (imm := imm) (loc := loc) hzo
  obtain ⟨cells', f1, f2, f3⟩ := fill_rel he hs.place k1 k2 hf
  refine ⟨cells', e, ?_, f2, f3, by rw [fillP_length hf, hzl]⟩
  have hparts : (ps'.map fun (p : Nat × Operand) => (p.1, a.eval p.2)).toList = ps'.toList.map fun p => (p.1, a.eval p.2) := by simp
  have hle' : ¬ len * esz > 2 ^ 24 := by omega
  have hsz : tySize P e = some esz := by simp [tySize, hi, hz]
  have hzr : (zeroValue e).run P w = .ok zv w := by simp [zeroValue, typeInfo, hi, hzv]
  simp only [madeCells] at f1
  by_cases h0 : len * esz = 0
  · rw [h0] at f1
    simp only [Array.range_zero', Array.map_empty] at f1
    simp only [execOp, ho, Instr.buildSlice, Sem.run_bind, underlying, run_program, Result.andThen_ok, hu, Sem.run_pure, tySize_run hsz, hle', if_false, h0, if_true, hparts, Array.range_zero', Array.map_empty, f1]
    try simp [f1, newRow]
  · simp only [execOp, ho, Instr.buildSlice, Sem.run_bind, underlying, run_program, Result.andThen_ok, hu, Sem.run_pure, tySize_run hsz, hle', if_false, h0, hzr, hparts, f1]
    simp [newRow]
end
end Go.Lev
