/- Structs and slices put together; slices made. -/
import Derived.Test.YtddfcajdelfikaaDoorVm8
set_option linter.unusedVariables false
set_option linter.unusedSimpArgs false
set_option linter.unusedSectionVars false
namespace Go.Proofs.YtddfcajdelfikaaDoor.Vm
open Go
open GV (absL extsL fzL)
open PV (frzL)

/-! ### cells laid into cells -/

theorem foldl_set (off : Nat) : ∀ (l : List Value) (k : Nat) (cs : Array Value), off + k + l.length ≤ cs.size →
    (l.zipIdx k).foldl (fun cs (x : Value × Nat) => cs.setIfInBounds (off + x.2) x.1) cs = (cs.toList.take (off + k) ++ l ++ cs.toList.drop (off + k + l.length)).toArray
  | [], k, cs, _ => by simp
  | v :: l, k, cs, h => by
    simp only [List.zipIdx_cons, List.foldl_cons]
    rw [foldl_set off l (k + 1) _ (by simp at h ⊢; omega)]
    have e := list_seg_step cs.toList (off + k) v l (by simp at h ⊢; omega)
    congr 1
    simp only [Array.toList_setIfInBounds]
    have e1 : off + (k + 1) = off + k + 1 := by omega
    rw [e1]
    simpa [Nat.add_assoc] using e

theorem fill_step {place : Nat → Option (Nat × Nat)} {cells : Array Value} {i off : Nat} {v : Value} {rest : List (Nat × Value)} {vs : List Value} (hp : place i = some (off, vs.length)) (hv : v.cells = vs.toArray)
    (hl : off + vs.length ≤ cells.size) : Instr.fill place cells ((i, v) :: rest) = Instr.fill place (cells.toList.take off ++ vs ++ cells.toList.drop (off + vs.length)).toArray rest := by
  have hs : v.cells.size = vs.length := by rw [hv]; simp
  simp only [Instr.fill, hp, hs, ne_eq, not_true_eq_false, false_or, Nat.not_lt.2 hl, gt_iff_lt, if_false]
  congr 1
  have := foldl_set off vs 0 cells (by omega)
  rw [Nat.add_zero] at this
  rw [← this, hv, ← Array.foldl_toList, Array.toList_zipIdx]
  simp

theorem flat_get (z : List Value) : ∀ (n i : Nat), i < n * z.length → (List.replicate n z).flatten[i]? = z[i % z.length]?
  | 0, i, h => by omega
  | n + 1, i, h => by
    rw [List.replicate_succ, List.flatten_cons]
    by_cases hi : i < z.length
    · rw [List.getElem?_append_left hi, Nat.mod_eq_of_lt hi]
    · rw [List.getElem?_append_right (by omega), flat_get z n (i - z.length) (by rw [Nat.succ_mul] at h; omega)]
      congr 1
      rw [Nat.mod_eq_sub_mod (a := i) (by omega)]

theorem range_flat (z : Array Value) (n : Nat) : (Array.range (n * z.size)).map (z[· % z.size]!) = ((List.replicate n z.toList).flatten).toArray := by
  apply Array.ext'
  simp only [Array.toList_map, Array.toList_range]
  apply List.ext_getElem?
  intro i
  rw [List.getElem?_map]
  by_cases h : i < n * z.size
  · rw [List.getElem?_range h, flat_get z.toList n i (by simpa using h)]
    have hz : 0 < z.size := by
      rcases Nat.eq_zero_or_pos z.size with h0 | h0
      · rw [h0] at h; simp at h
      · exact h0
    have hm : i % z.size < z.size := Nat.mod_lt _ hz
    simp [hm]
  · rw [List.getElem?_eq_none (by simpa using h), List.getElem?_eq_none]
    · rfl
    · simp only [List.length_flatten, List.map_replicate, List.sum_replicate_nat]
      simpa using h

theorem zip_parts (f : Operand → Value) : ∀ (parts : List (Nat × Operand)), (parts.map (·.1)).zip ((parts.map (·.2)).map f) = parts.map fun (i, x) => (i, f x)
  | [] => rfl
  | p :: parts => by simp only [List.map_cons, List.zip_cons_cons, zip_parts f parts]

/-! ### the evaluator -/

/-- A place, the field's row, the operand: laid into the value in flight at (d, 0). -/
def laid (st : St) (d : Nat) : Nat → List (Nat × TE × Operand) → Option St
  | _, [] => some st
  | j, (off, e, x) :: r => match st.src (d, j + 1) e.zero x with
    | some (_, st1, s) => match st1.srcRow s with
      | some row => bif Nat.beq row.length e.size then (match (st1.srcDrop s).setAt (d, 0) [off] row with
        | some st2 => laid st2 d (j + 1) r
        | none => none) else none
      | none => none
    | none => none

def fieldParts (T : Tab) (t : Nat) : List (Nat × Operand) → Option (List (Nat × TE × Operand))
  | [] => some []
  | (i, x) :: r => match T.fld t i, fieldParts T t r with
    | some (off, e), some l => some ((off, e, x) :: l)
    | _, _ => none

def elemParts (e : TE) : List (Nat × Operand) → List (Nat × TE × Operand)
  | [] => []
  | (i, x) :: r => (i * e.size, e, x) :: elemParts e r

def evBuild (T : Tab) (st : St) (d t : Nat) (parts : List (Nat × Operand)) : Option (St × TV) :=
  match T.get t, fieldParts T t parts with
  | some e, some ps => bif e.agg then (match st.add (d, 0) true e.zero with
    | some st1 => match laid st1 d 0 ps with
      | some st2 => match rlk st2.roots (d, 0) with
        | some R => bif hasOwn R.row then some (st2, .view true (d, 0) [0] R.row.length) else some (st2.drop (d, 0), .val true R.row)
        | none => none
      | none => none
    | none => none) else none
  | _, _ => none

/-- The value in flight at k becomes a slice of n elements, of sz cells each, in memory of its own. -/
def St.wrapSl (st : St) (k : Key) (sz n : Nat) : Option (St × TV) :=
  match st.srcRow (.root k) with
  | some row => match (st.drop k).add k true [.sl true sz n row] with
    | some st1 => some (st1, .view false k [0] 1)
    | none => none
  | none => none

def evBuildSlice (T : Tab) (st : St) (d t len : Nat) (parts : List (Nat × Operand)) : Option (St × TV) :=
  match T.el t with
  | some e => bif Nat.ble (len * e.size) 16777216 then (match st.add (d, 0) true (List.replicate len e.zero).flatten with
    | some st1 => match laid st1 d 0 (elemParts e parts) with
      | some st2 => st2.wrapSl (d, 0) e.size len
      | none => none
    | none => none) else none
  | none => none

def evMakeSlice (T : Tab) (st : St) (d t : Nat) (l c : Operand) : Option (St × TV) :=
  match T.el t, st.sc true l, st.sc true c with
  | some e, some (.int .i64 n), some (.int .i64 m) => if n = m ∧ 0 ≤ n ∧ n * e.bytes ≤ 140737488355328 ∧ n ≤ 9223372036854775807 then
      (match st.add (d, 0) true (List.replicate n.toNat e.zero).flatten with
      | some st1 => st1.wrapSl (d, 0) e.size n.toNat
      | none => none) else none
  | _, _, _ => none

section
variable {Z : Nat → Nat → Prop} {w0 : World} {E0 : List Ext} {pins : List Pin} {gr : List GR} {a : Act} {w : World} {st : St}

/-- A source laid into a value in flight. -/
theorem Rel.gmerge (h : Rel Z w0 E0 pins gr a w st) {s : Src} {gs : List GV} {gr0 : List GR} (sp : SrcSpec Z w st gr s gs gr0) {k : Key} {off : Nat} {st' : St}
    (hst : (st.srcDrop s).setAt k [off] (absL gs) = some st') (hpk : hasKey st.pk k = false) {R : GR} (hR : R ∈ gr0) (hk : R.key = k) (hl : R.loc = none) :
    ∃ row', setG [off] R.row gs = some row' ∧ Rel Z w0 E0 pins (rput gr0 k row') a w st' ∧ { R with row := row' } ∈ rput gr0 k row' := by
  subst hk
  have hRg := sp.mem R hR
  have hsatR := h.sat R hRg
  have hset : ∃ row', setG [off] R.row gs = some row' := by
    have he' := hst
    unfold St.setAt at he'
    split at he'
    · rename_i S hS
      split at he'
      · rename_i rw1 hrw
        obtain ⟨hS1, hS2⟩ := rlk_mem hS
        rw [sp.roots] at hS1
        obtain ⟨R2, hR2, rfl⟩ := List.mem_map.1 hS1
        obtain rfl := root_uniq sp.ok.keys hR2 hR hS2
        have hab := setP_absL [off] R2.row gs hsatR
        have hrw' : setP [off] (absL R2.row) (absL gs) = some rw1 := hrw
        rw [hrw'] at hab
        cases hq : setG [off] R2.row gs with
        | none => rw [hq] at hab; cases hab
        | some row' => exact ⟨row', rfl⟩
      · cases he'
    · cases he'
  obtain ⟨row', hset⟩ := hset
  refine ⟨row', hset, ?_, rput_same hR rfl⟩
  refine h.gset sp hR hset (Evo.refl w (fun _ _ => False)) (fun _ _ h => h.elim) ?_ (by rw [hl]; intro b o hb; cases hb) ?_ hst
  · intro O' hO'
    refine set_virtual ?_ ?_ hset
    · exact SatL_evo (Evo.refl w (fun _ _ => False)) (fun _ _ h => h.elim) hO' _ hsatR (fun _ _ _ h => h)
    · exact SatL_evo (Evo.refl w (fun _ _ => False)) (fun _ _ h => h.elim) hO' _ sp.ok.sat (fun _ _ _ h => h)
  · intro q hq hkey _
    exact absurd (h.pk q hq) (by rw [hkey]; exact hasKey_false hpk)

theorem setAt_pk {st st' : St} {k : Key} {p : List Nat} {new : List PV} (h : st.setAt k p new = some st') : st'.pk = st.pk := by
  unfold St.setAt at h
  split at h
  · split at h
    · cases h; rfl
    · cases h
  · cases h

theorem add_pk {st st' : St} {k : Key} {v : Bool} {row : List PV} (h : st.add k v row = some st') : st'.pk = st.pk ∧ hasKey st.pk k = false := by
  unfold St.add at h
  cases hpk : hasKey st.pk k with
  | true => rw [hpk] at h; cases h
  | false => rw [hpk] at h; cases h; exact ⟨rfl, rfl⟩

theorem src_pk {st st1 : St} {sk : Key} {z : List PV} {x : Operand} {agg : Bool} {s : Src} (h : st.src sk z x = some (agg, st1, s)) : st1.pk = st.pk := by
  unfold St.src at h
  split at h
  · cases h; rfl
  · split at h
    · cases h; rfl
    · cases h
  · split at h
    · rename_i R _
      cases hw : isWhole R _ _ with
      | true => rw [hw] at h; cases h; rfl
      | false =>
        rw [hw] at h
        simp only [cond_false] at h
        split at h
        · rename_i c _
          cases ho : hasOwn c with
          | true =>
            rw [ho] at h
            simp only [cond_true] at h
            split at h
            · rename_i st2 ht
              cases h
              unfold St.takeInto at ht
              split at ht
              · split at ht
                · rename_i c2 _
                  cases hk : keyEq _ sk with
                  | true => rw [hk] at ht; cases ht
                  | false =>
                    rw [hk] at ht
                    simp only [cond_false] at ht
                    split at ht
                    · rename_i st3 h3
                      rw [(add_pk ht).1, setAt_pk h3]
                    · cases ht
                · cases ht
              · cases ht
            · cases h
          | false => rw [ho] at h; cases h; rfl
        · cases h
    · cases h
  · cases h

/-- Parts laid into a value in flight: the ghost's side and the model's own fill. -/
theorem Rel.glaid {d : Nat} {place : Nat → Option (Nat × Nat)} : ∀ {parts : List (Nat × TE × Operand)} {idx : List Nat} {j : Nat} {st st' : St} {gr : List GR} {R : GR},
    Rel Z w0 E0 pins gr a w st → laid st d j parts = some st' → hasKey st.pk (d, 0) = false → R ∈ gr → R.key = (d, 0) → R.loc = none → idx.length = parts.length →
    (∀ e, e ∈ st.env → e.2.on (d, 0) = false) →
    (∀ i, i < parts.length → place (idx.getD i 0) = (parts[i]?).map fun p => (p.1, p.2.1.size)) →
    ∃ gr' R', Rel Z w0 E0 pins gr' a w st' ∧ R' ∈ gr' ∧ R'.key = (d, 0) ∧ R'.loc = none ∧ st'.pk = st.pk ∧ R'.row.length = R.row.length ∧
      Instr.fill place (R.row.map GV.val).toArray (idx.zip (parts.map fun p => a.eval p.2.2)) = some (R'.row.map GV.val).toArray
  | [], idx, j, st, st', gr, R, h, hl, hpk, hR, hk, hloc, hi, hen, hpl => by
    simp only [laid] at hl
    cases hl
    exact ⟨gr, R, h, hR, hk, hloc, rfl, rfl, by simp [Instr.fill]⟩
  | (off, e, x) :: parts, idx, j, st, st', gr, R, h, hl, hpk, hR, hk, hloc, hi, hen, hpl => by
    simp only [laid] at hl
    split at hl
    · rename_i agg st1 s hsrc
      split at hl
      · rename_i row hrow
        cases hlen : Nat.beq row.length e.size with
        | false => rw [hlen] at hl; cases hl
        | true =>
          rw [hlen] at hl
          simp only [cond_true] at hl
          rw [Nat.beq_eq] at hlen
          split at hl
          · rename_i st2 hst
            obtain ⟨gr1, h1, hen1, hsp⟩ := h.gsrc hsrc
            obtain ⟨gs, gr0, rfl, hv, sp, hoth⟩ := hsp row hrow
            have hR0 : R ∈ gr0 := by
              refine hoth R hR (fun tv htv => ?_) (by rw [hk]; intro e; cases e)
              rw [hk]
              cases x with
              | tmp t => exact hen _ (lk_mem htv)
              | const v =>
                simp only [St.opv, constTV] at htv
                split at htv <;> cases htv <;> rfl
              | global g => cases htv
              | func f => cases htv; rfl
            have hpk1 : hasKey st1.pk (d, 0) = false := by rw [src_pk hsrc]; exact hpk
            obtain ⟨row', hset, h2, hR2⟩ := h1.gmerge sp hst hpk1 hR0 hk hloc
            have hpk2 : st2.pk = st.pk := by rw [setAt_pk hst, sp.pk, src_pk hsrc]
            have hen2 : ∀ e, e ∈ st2.env → e.2.on (d, 0) = false := by
              intro e he
              unfold St.setAt at hst
              split at hst
              · split at hst
                · cases hst
                  exact hen e (hen1 e (sp.env e (mem_keepE.1 he).1).1)
                · cases hst
              · cases hst
            match idx, hi with
            | i :: idx, hi =>
              have hp0 := hpl 0 (by simp)
              simp only [List.getD_cons_zero, List.getElem?_cons_zero, Option.map_some] at hp0
              rw [absL_length] at hlen
              obtain ⟨gr', R', q1, q2, q3, q4, q5, q6, q7⟩ := glaid (idx := idx) h2 hl (by rw [hpk2]; exact hpk) hR2 hk hloc (by simpa using hi) hen2 (fun i hi => by
                have := hpl (i + 1) (by simpa using hi)
                simpa using this)
              refine ⟨gr', R', q1, q2, q3, q4, q5.trans hpk2, q6.trans (setG_length hset), ?_⟩
              have hc := packed_cells hv sp.ok.sat
              simp only [setG] at hset
              split at hset
              · rename_i hle
                cases hset
                simp only [List.map_cons, List.zip_cons_cons]
                rw [fill_step (vs := gs.map GV.val) (off := off) (by rw [hp0, List.length_map, hlen]) hc (by simpa using hle)]
                rw [← q7]
                simp [List.map_append, List.map_take, List.map_drop]
              · cases hset
          · cases hl
      · cases hl
    · cases hl

theorem add_virt (h : Rel Z w0 E0 pins gr a w st) {k : Key} {row : List PV} {st' : St} (hst : st.add k true row = some st') {gs : List GV} (hg : absL gs = row)
    (hs : SatL w (OW Z gr) gs) (he : extsL gs = []) : ∃ gr', Rel Z w0 E0 pins gr' a w st' ∧ ⟨k, none, gs⟩ ∈ gr' ∧ (∀ e, e ∈ st'.env → e.2.on k = false) := by
  subst hg
  obtain ⟨gr', h1, h2⟩ := h.gkey (srcSpec_fro (row := absL gs) h hs he) hst
  refine ⟨gr', h1, h2, fun e he => ?_⟩
  unfold St.add at hst
  cases hpk : hasKey st.pk k with
  | true => rw [hpk] at hst; cases hst
  | false =>
    rw [hpk] at hst
    cases hst
    simpa using (mem_keepE.1 he).2

theorem rlk_key {gr : List GR} (hk : (gr.map GR.key).Nodup) {R : GR} (hR : R ∈ gr) : rlk (gr.map GR.root) R.key = some R.root := by
  induction gr with
  | nil => cases hR
  | cons S gr ih =>
    simp only [List.map_cons, List.nodup_cons] at hk
    simp only [List.map_cons, rlk]
    by_cases he : S = R
    · subst he
      simp [GR.root]
    · have hR' : R ∈ gr := by
        rcases List.mem_cons.1 hR with e | e
        · exact absurd e.symm he
        · exact e
      have hne : S.key ≠ R.key := fun e => hk.1 (List.mem_map.2 ⟨R, hR', e.symm⟩)
      have : ¬ (S.root.key.1 = R.key.1 ∧ S.root.key.2 = R.key.2) := fun ⟨e1, e2⟩ => hne (Prod.ext e1 e2)
      split
      · rename_i e1
        rw [if_neg (fun e2 => this ⟨e1, e2⟩)]
        exact ih hk.2 hR'
      · exact ih hk.2 hR'

variable {P : Program} {T : Tab} (hT : TabOk P T)
include hT

theorem fieldParts_ok {t : Nat} {fields : Array Field} {places : List (Nat × Nat)} (hu : P.underlying t = some (.struct fields)) (hp : fields.toList.mapM (fun f => (P.info? f.type).map fun i => (f.offset, i.size)) = some places) :
    ∀ {parts : List (Nat × Operand)} {ps : List (Nat × TE × Operand)}, fieldParts T t parts = some ps →
      ps.length = parts.length ∧ ps.map (fun p => p.2.2) = parts.map (·.2) ∧ ∀ i, i < ps.length → places.toArray[(parts.map (·.1)).getD i 0]? = (ps[i]?).map fun p => (p.1, p.2.1.size)
  | [], ps, h => by simp only [fieldParts] at h; cases h; exact ⟨rfl, rfl, fun i hi => absurd hi (by simp)⟩
  | (i, x) :: parts, ps, h => by
    simp only [fieldParts] at h
    split at h
    · rename_i off e l hf hl
      cases h
      obtain ⟨h1, h2, h3⟩ := fieldParts_ok hu hp hl
      refine ⟨by simp [h1], by simp [h2], fun j hj => ?_⟩
      cases j with
      | succ j => simpa using h3 j (by simpa using hj)
      | zero =>
        obtain ⟨fields', fd, hu', hfd, rfl, hte⟩ := fld_ok hT hf
        rw [hu] at hu'
        cases hu'
        obtain ⟨inf, z, hi, hsz, _⟩ := (hT fd.type e hte).info
        have key : ∀ (fs : List Field) (pl : List (Nat × Nat)), fs.mapM (fun f => (P.info? f.type).map fun i => (f.offset, i.size)) = some pl → ∀ (k : Nat) (fd : Field), fs[k]? = some fd → P.info? fd.type = some inf → pl[k]? = some (fd.offset, inf.size) := by
          intro fs
          induction fs with
          | nil => intro pl _ k fd hk; simp at hk
          | cons f fs ih =>
            intro pl hpl k fd hk hinf
            simp only [List.mapM_cons, Option.bind_eq_bind, Option.pure_def] at hpl
            cases h1 : P.info? f.type with
            | none => simp [h1] at hpl
            | some i1 =>
              cases h2 : fs.mapM (fun f => (P.info? f.type).map fun i => (f.offset, i.size)) with
              | none => simp [h1, h2] at hpl
              | some pl' =>
                simp [h1, h2] at hpl
                subst hpl
                cases k with
                | zero => simp at hk; subst hk; rw [h1] at hinf; cases hinf; rfl
                | succ k => simpa using ih pl' h2 k fd (by simpa using hk) hinf
        have := key fields.toList places hp i fd (by simpa using hfd) hi
        simp [this, hsz]
    · cases h

theorem evBuild_ok (h : Rel Z w0 E0 pins gr a w st) {d t : Nat} {parts : List (Nat × Operand)} {st' : St} {tv : TV} (he : evBuild T st d t parts = some (st', tv)) :
    ∃ v gr', (Instr.build t (parts.map fun (i, x) => (i, a.eval x)).toArray).run P w = .ok v w ∧ Rel Z w0 E0 pins gr' a w st' ∧ TVOk Z w gr' v tv := by
  unfold evBuild at he
  split at he
  · rename_i e ps hte hps
    cases hag : e.agg with
    | false => rw [hag] at he; cases he
    | true =>
      rw [hag] at he
      simp only [cond_true] at he
      split at he
      · rename_i st1 hst1
        split at he
        · rename_i st2 hst2
          split at he
          · rename_i S hS
            have hok := hT t e hte
            have hk := hok.kind
            have hstruct : ∃ fields places, P.underlying t = some (.struct fields) ∧ fields.toList.mapM (fun f => (P.info? f.type).map fun i => (f.offset, i.size)) = some places := by
              unfold TE.agg at hag
              split at hag
              · rename_i fs hfs
                rw [hfs] at hk
                obtain ⟨fields, places, q1, _, q3⟩ := hk
                exact ⟨fields, places, q1, q3⟩
              · cases hag
            obtain ⟨fields, places, hu, hpl⟩ := hstruct
            obtain ⟨f1, f2, f3⟩ := fieldParts_ok hT hu hpl hps
            obtain ⟨gr1, h1, hm1, hen1⟩ := add_virt h hst1 (gs := e.zero.map PV.zg) (absL_zg hok.zs) (satL_zg hok.zs) (extsL_zg _)
            have hpk := add_pk hst1
            obtain ⟨gr2, R, h2, hR, hRk, hRl, hpk2, hlen, hfill⟩ := h1.glaid (place := fun i => places.toArray[i]?) (idx := parts.map (·.1)) hst2 (by rw [hpk.1]; exact hpk.2) hm1 rfl rfl (by simp [f1]) hen1 f3
            obtain ⟨inf, z, hi, hsz, hby, hz, hzc⟩ := hok.info
            have hzcells : z.cells = ((e.zero.map PV.zg).map GV.val).toArray := by apply Array.ext'; rw [hzc]; simp
            have hrun : (Instr.build t (parts.map fun (i, x) => (i, a.eval x)).toArray).run P w = .ok (.agg (R.row.map GV.val).toArray) w := by
              refine run_build w t _ _ ?_
              unfold Program.built
              rw [hi, hu]
              simp only [hz, hpl]
              rw [hzcells]
              have hzip : (parts.map (·.1)).zip (ps.map fun p => a.eval p.2.2) = parts.map fun (i, x) => (i, a.eval x) := by
                have : (ps.map fun p => a.eval p.2.2) = (parts.map (·.2)).map a.eval := by rw [← f2, List.map_map]; rfl
                rw [this, zip_parts]
              rw [hzip] at hfill
              exact hfill
            have hSR : S = R.root := by
              have := rlk_key h2.keys hR
              rw [hRk, ← h2.roots, hS] at this
              exact Option.some.inj this
            subst hSR
            have hsat := h2.sat R hR
            cases ho : hasOwn R.root.row with
            | true =>
              rw [ho] at he
              cases he
              refine ⟨_, gr2, hrun, h2, R, hR, hRk, R.row, ?_, rfl⟩
              simp [getG, GR.root]
            | false =>
              rw [ho] at he
              cases he
              refine ⟨_, gdel gr2 (d, 0), hrun, h2.gdrop (d, 0), ?_⟩
              exact h2.gdrop_tv (tv := .val true R.root.row) ⟨R.row, rfl, hasOwn_false_fz hsat ho, hsat, rfl⟩ rfl
          · cases he
        · cases he
      · cases he
  · cases he

omit hT in
theorem Rel.gwrap (h : Rel Z w0 E0 pins gr a w st) {k : Key} {sz n cap : Nat} {st' : St} {tv : TV} (hw : st.wrapSl k sz n = some (st', tv)) {R : GR} (hR : R ∈ gr) (hk : R.key = k) (hl : R.loc = none)
    (hlen : R.row.length = n * sz) (hcap : n ≤ cap) (rest : List Value) (hrest : cap * sz ≤ n * sz + rest.length) {w1 : World} (hE1 : Evo w w1 (fun _ _ => False)) (hs1 : w1.heap.size = w.heap.size) (e : TypeId) :
    ∃ gr', Rel Z w0 E0 pins gr' a (w1.alloc (.cells ((R.row.map GV.val) ++ rest).toArray e)) st' ∧ TVOk Z (w1.alloc (.cells ((R.row.map GV.val) ++ rest).toArray e)) gr' (.slice (some ⟨w.heap.size, 0, none⟩) n cap) tv := by
  unfold St.wrapSl at hw
  split at hw
  · rename_i row hrow
    split at hw
    · rename_i st1 hst
      cases hw
      obtain ⟨R', hR', hk', hl', rfl⟩ := srcRow_root h hrow
      obtain rfl := h.uniq hR' hR (hk'.trans hk.symm)
      have sp := srcSpec_root h hR hk hl
      unfold St.add at hst
      have hpk0 : (st.drop k).pk = st.pk := rfl
      rw [hpk0] at hst
      cases hpk : hasKey st.pk k with
      | true => rw [hpk] at hst; cases hst
      | false =>
        rw [hpk] at hst
        cases hst
        let w' := w1.alloc (.cells ((R'.row.map GV.val) ++ rest).toArray e)
        have hE : Evo w w' (fun _ _ => False) := hE1.trans (evo_alloc w1 _ (fun _ _ => False)) (fun _ _ _ h => h) (fun _ _ _ h => h)
        have hmem : Mem w' (some (w.heap.size, 0)) R'.row := by
          have := mem_alloc w1 R'.row rest e
          rw [hs1] at this
          exact this
        have hsat := h.sat R' hR
        obtain ⟨r1, _⟩ := h.gnew sp.ok hpk (loc := none) (row' := [.sl true sz n cap (some (w.heap.size, 0)) R'.row]) (F := [.blk w.heap.size]) (w' := w') hE (fun _ _ h => h.elim)
          (fun b o he => by have := inE_one.1 he; simp only [Ext.has] at this; omega) (List.pairwise_singleton _ _)
          (by simp only [GR.exts, GR.base, GV.extsL, GV.exts, ownExt, List.nil_append, List.append_nil]; exact List.perm_append_comm)
          (fun O' hO' => by
            simp only [SatL, and_true, Sat]
            refine ⟨hlen, hcap, ?_, hmem, ?_, ?_, SatL_evo hE (fun _ _ h => h.elim) hO' _ hsat (fun _ _ _ h => h)⟩
            · intro h; cases h
            rotate_left
            · intro h; exact absurd h (by decide)
            intro b o hb
            cases hb
            refine ⟨fun _ => ?_, fun h => absurd h (by decide)⟩
            have := blk_alloc w1 ((R'.row.map GV.val) ++ rest).toArray e (m := 0 + cap * sz) (by simp; omega)
            rw [hs1] at this
            exact this)
          (by intro b o hb; cases hb) (by intro b o hb; cases hb) (env0 := (st.drop k).env) sp.env
        have e1 : (⟨k, none, [.sl true sz n cap (some (w.heap.size, 0)) R'.row]⟩ : GR).root = ⟨k, true, [.sl true sz n (absL R'.row)]⟩ := rfl
        rw [e1, ← delR_root] at r1
        have e2 : delR (st.drop k).roots k = delR ((gdel gr k).map GR.root) k := by
          show delR (delR st.roots k) k = _
          rw [h.roots, delR_root]
        refine ⟨⟨k, none, [.sl true sz n cap (some (w.heap.size, 0)) R'.row]⟩ :: gdel (gdel gr k) k, ?_, ?_⟩
        · rw [e2]
          exact r1
        · exact ⟨_, List.mem_cons_self, rfl, [.sl true sz n cap (some (w.heap.size, 0)) R'.row], rfl, _, rfl, rfl⟩
    · cases hw
  · cases hw


theorem flat_zg {l : List PV} (n : Nat) : (List.replicate n l).flatten.map PV.zg = (List.replicate n (l.map PV.zg)).flatten := by
  rw [List.map_flatten, List.map_replicate]

omit hT in
theorem absL_flat_zg {l : List PV} (h : l.all PV.isZ = true) (n : Nat) : absL ((List.replicate n l).flatten.map PV.zg) = (List.replicate n l).flatten ∧
    (∀ w O, SatL w O ((List.replicate n l).flatten.map PV.zg)) := by
  have hall : ((List.replicate n l).flatten).all PV.isZ = true := by
    rw [List.all_eq_true]
    intro p hp
    rw [List.mem_flatten] at hp
    obtain ⟨m, hm, hp⟩ := hp
    rw [List.eq_of_mem_replicate hm] at hp
    exact List.all_eq_true.1 h p hp
  exact ⟨absL_zg hall, fun w O => satL_zg hall⟩

theorem zero_cells {t : Nat} {e : TE} (he : T.get t = some e) (n : Nat) : ∃ z, (zeroValue t).run P w = .ok z w ∧
    (Array.range (n * e.size)).map (z.cells[· % z.cells.size]!) = (((List.replicate n e.zero).flatten.map PV.zg).map GV.val).toArray ∧ z.cells.size = e.size := by
  obtain ⟨z, hz, hzc⟩ := run_zero hT w he
  have hok := hT t e he
  have hsz : z.cells.size = e.size := by
    have := congrArg List.length hzc
    simp only [Array.length_toList, List.length_map] at this
    rw [this, hok.zl]
  refine ⟨z, hz, ?_, hsz⟩
  rw [← hsz, range_flat, hzc]
  congr 1
  rw [List.map_flatten, List.map_flatten, List.map_replicate, List.map_replicate, List.map_map]
  rfl

omit hT in
theorem wrap_i64 {n : Int} (h0 : -9223372036854775808 ≤ n) (h1 : n ≤ 9223372036854775807) : IntKind.i64.wrap n = n := by
  have e : IntKind.i64.wrap n = if (9223372036854775808 : Int) ≤ n % 18446744073709551616 then n % 18446744073709551616 - 18446744073709551616 else n % 18446744073709551616 := by
    simp [IntKind.wrap, IntKind.signed, IntKind.bits]
  rw [e]
  split <;> omega

omit hT in
theorem range_none (f : Nat → Value) : (Array.range 0).map f = #[] := by
  apply Array.ext'
  simp

omit hT in
theorem elemParts_ok {e : TE} : ∀ {parts : List (Nat × Operand)},
      (elemParts e parts).length = parts.length ∧ (elemParts e parts).map (fun p => p.2.2) = parts.map (·.2) ∧ ∀ i, i < (elemParts e parts).length →
        some ((parts.map (·.1)).getD i 0 * e.size, e.size) = ((elemParts e parts)[i]?).map fun p => (p.1, p.2.1.size)
  | [] => ⟨rfl, rfl, fun i hi => absurd hi (by simp [elemParts])⟩
  | (i, x) :: parts => by
    obtain ⟨h1, h2, h3⟩ := elemParts_ok (e := e) (parts := parts)
    refine ⟨by simp [elemParts, h1], by simp [elemParts, h2], fun j hj => ?_⟩
    cases j with
    | zero => simp [elemParts]
    | succ j => simpa [elemParts] using h3 j (by simpa [elemParts] using hj)

theorem evBuildSlice_ok (h : Rel Z w0 E0 pins gr a w st) {d t len : Nat} {parts : List (Nat × Operand)} {st' : St} {tv : TV} (he : evBuildSlice T st d t len parts = some (st', tv)) :
    ∃ v w' gr', (Instr.buildSlice t len (parts.map fun (i, x) => (i, a.eval x)).toArray).run P w = .ok v w' ∧ Rel Z w0 E0 pins gr' a w' st' ∧ TVOk Z w' gr' v tv := by
  unfold evBuildSlice at he
  split at he
  · rename_i e hte
    cases hb : Nat.ble (len * e.size) 16777216 with
    | false => rw [hb] at he; cases he
    | true =>
      rw [hb] at he
      simp only [cond_true] at he
      rw [Nat.ble_eq] at hb
      split at he
      · rename_i st1 hst1
        split at he
        · rename_i st2 hst2
          obtain ⟨el, hu, hel⟩ := el_ok hT hte
          have hok := hT el e hel
          obtain ⟨z1, z2⟩ := absL_flat_zg hok.zs len
          obtain ⟨gr1, h1, hm1, hen1⟩ := add_virt h hst1 (gs := (List.replicate len e.zero).flatten.map PV.zg) z1 (z2 _ _) (extsL_zg _)
          have hpk := add_pk hst1
          obtain ⟨f1, f2, f3⟩ := elemParts_ok (e := e) (parts := parts)
          obtain ⟨gr2, R, h2, hR, hRk, hRl, hpk2, hlen, hfill⟩ := h1.glaid (place := fun i => some (i * e.size, e.size)) (idx := parts.map (·.1)) hst2 (by rw [hpk.1]; exact hpk.2) hm1 rfl rfl (by simp [f1]) hen1 f3
          obtain ⟨z, hz, hzc, hzs⟩ := zero_cells (w := w) hT hel len
          have hRlen : R.row.length = len * e.size := by
            rw [hlen]
            simp only [List.length_map, List.length_flatten, List.map_replicate, List.sum_replicate_nat, hok.zl]
          obtain ⟨gr3, h3, h4⟩ := h2.gwrap (cap := len) he hR hRk hRl hRlen (Nat.le_refl _) [] (by simp) (Evo.refl w _) rfl el
          simp only [List.append_nil] at h3 h4
          refine ⟨_, _, gr3, ?_, h3, h4⟩
          have hzip : (parts.map (·.1)).zip ((elemParts e parts).map fun p => a.eval p.2.2) = parts.map fun (i, x) => (i, a.eval x) := by
            have : ((elemParts e parts).map fun p => a.eval p.2.2) = (parts.map (·.2)).map a.eval := by rw [← f2, List.map_map]; rfl
            rw [this, zip_parts]
          rw [hzip] at hfill
          unfold Instr.buildSlice
          simp only [Sem.run_bind, run_underlying hu, Result.andThen_ok, run_size hT w hel, Nat.not_lt.2 hb, gt_iff_lt, if_false]
          by_cases h0 : len * e.size = 0
          · have hR0 : R.row = [] := List.eq_nil_of_length_eq_zero (by rw [hRlen, h0])
            have hz0 : (List.replicate len e.zero).flatten.map PV.zg = [] := List.eq_nil_of_length_eq_zero (by rw [← hlen, hRlen, h0])
            rw [hz0, hR0] at hfill
            simp only [List.map_nil] at hfill
            rw [if_pos h0]
            have hfill' : Instr.fill (fun i => some (i * e.size, e.size)) #[] (parts.map fun (i, x) => (i, a.eval x)) = some #[] := hfill
            simp only [Sem.run_bind, Sem.run_pure, Result.andThen_ok, h0, range_none, List.toList_toArray, hfill', hR0, List.map_nil]
            rfl
          · rw [if_neg h0]
            simp only [Sem.run_bind, hz, Result.andThen_ok, Sem.run_pure, hzc, List.toList_toArray, hfill]
            rfl
        · cases he
      · cases he
  · cases he

theorem evMakeSlice_ok (h : Rel Z w0 E0 pins gr a w st) {d t : Nat} {l c : Operand} {st' : St} {tv : TV} (he : evMakeSlice T st d t l c = some (st', tv)) :
    ∃ v w' gr', (Instr.makeSlice t (a.eval l) (a.eval c)).run P w = .ok v w' ∧ Rel Z w0 E0 pins gr' a w' st' ∧ TVOk Z w' gr' v tv := by
  unfold evMakeSlice at he
  split at he
  · rename_i e n m hte hl hc
    split at he
    · rename_i hcond
      obtain ⟨rfl, hn0, hnb, hn63⟩ := hcond
      split at he
      · rename_i st1 hst1
        obtain ⟨el, hu, hel⟩ := el_ok hT hte
        have hok := hT el e hel
        obtain ⟨k, rfl⟩ := Int.eq_ofNat_of_zero_le hn0
        simp only [Int.toNat_natCast] at he hst1
        obtain ⟨z1, z2⟩ := absL_flat_zg hok.zs k
        obtain ⟨gr1, h1, hm1, hen1⟩ := add_virt h hst1 (gs := (List.replicate k e.zero).flatten.map PV.zg) z1 (z2 _ _) (extsL_zg _)
        obtain ⟨z, hz, hzc, hzs⟩ := zero_cells (w := w) hT hel k
        have hRlen : ((List.replicate k e.zero).flatten.map PV.zg).length = k * e.size := by
          simp only [List.length_map, List.length_flatten, List.map_replicate, List.sum_replicate_nat, hok.zl]
        obtain ⟨gr3, h3, h4⟩ := h1.gwrap (cap := k) he hm1 rfl rfl hRlen (Nat.le_refl _) [] (by simp) (Evo.refl w _) rfl el
        simp only [List.append_nil] at h3 h4
        refine ⟨_, _, gr3, ?_, h3, h4⟩
        obtain ⟨inf, zz, hi, hsz, hby, hzz, _⟩ := hok.info
        have hw1 : IntKind.i64.wrap (k : Int) = (k : Int) := wrap_i64 (by omega) hn63
        have hnb' : ¬ ((2 : Int) ^ 48 < (e.bytes : Int) * (k : Int)) := by
          rw [Int.mul_comm]; omega
        have hk0 : ¬ ((k : Int) < 0) := by omega
        unfold Instr.makeSlice
        simp only [Sem.run_bind, run_underlying hu, Result.andThen_ok, h.int hl rfl, h.int hc rfl, asInt, asIntOf, Sem.run_pure, typeInfo, run_program, hi, hby, hw1]
        rw [if_neg (by simp [hk0]; omega)]
        simp only [Sem.run_bind, run_askRoom, Result.andThen_ok, Int.toNat_natCast, run_size hT w hel]
        by_cases h0 : k * e.size = 0
        · have hz0 : (List.replicate k e.zero).flatten.map PV.zg = [] := List.eq_nil_of_length_eq_zero (by rw [hRlen, h0])
          simp only [h0, if_true, Sem.run_bind, Sem.run_pure, Result.andThen_ok, range_none, hz0, List.map_nil]
          rfl
        · simp only [h0, if_false, Sem.run_bind, hz, Result.andThen_ok, Sem.run_pure, hzc]
          rfl
      · cases he
    · cases he
  · cases he

end

end Go.Proofs.YtddfcajdelfikaaDoor.Vm
