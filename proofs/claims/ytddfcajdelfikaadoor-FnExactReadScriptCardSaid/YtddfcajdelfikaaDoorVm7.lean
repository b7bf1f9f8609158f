/- Sources of cells, and the operations that move, make and write roots. -/
import Derived.Test.YtddfcajdelfikaaDoorVm6
set_option linter.unusedVariables false
set_option linter.unusedSimpArgs false
set_option linter.unusedSectionVars false
namespace Go.Proofs.YtddfcajdelfikaaDoor.Vm
open Go
open GV (absL extsL fzL)
open PV (frzL)

inductive Src where
  | fro (row : List PV)
  | root (k : Key)

def St.srcRow (st : St) : Src → Option (List PV)
  | .fro row => some row
  | .root k => match rlk st.roots k with
    | some R => bif R.virt then some R.row else none
    | none => none

def St.srcDrop (st : St) : Src → St
  | .fro _ => st
  | .root k => st.drop k

def PV.deaden : PV → PV
  | .sl true _ _ _ => .dead
  | p => p

/-- Cells at a path move to a new root of their own. -/
def St.takeInto (st : St) (k r : Key) (p : List Nat) (n : Nat) : Option St :=
  match rlk st.roots r with
  | some R => match getP p R.row n with
    | some c => bif keyEq r k then none else
      (match st.setAt r p (c.map PV.deaden) with
      | some st1 => st1.add k true c
      | none => none)
    | none => none
  | none => none

def isWhole (R : Root) (p : List Nat) (n : Nat) : Bool :=
  match p with
  | [0] => R.virt && Nat.beq n R.row.length
  | _ => false

/-- An operand as a source: z is the row of a nil of its type. -/
def St.src (st : St) (sk : Key) (z : List PV) (x : Operand) : Option (Bool × St × Src) :=
  match st.opv x with
  | some (.val agg row) => some (agg, st, .fro row)
  | some .nil => match z with
    | [.sl true sz 0 []] => some (false, st, .fro [.sl true sz 0 []])
    | _ => none
  | some (.view agg r p n) => match rlk st.roots r with
    | some R => bif isWhole R p n then some (agg, st, .root r) else
      match getP p R.row n with
      | some c => bif hasOwn c then (match st.takeInto sk r p n with
          | some st1 => some (agg, st1, .root sk)
          | none => none) else some (agg, st, .fro c)
      | none => none
    | none => none
  | _ => none

/-! ### the ghost's side -/

def rput (gr : List GR) (k : Key) (row' : List GV) : List GR := gr.map fun R => bif keyEq R.key k then { R with row := row' } else R

theorem setR_root : ∀ {gr : List GR} {k : Key} {row' : List GV}, setR (gr.map GR.root) k (absL row') = (rput gr k row').map GR.root
  | [], _, _ => rfl
  | R :: gr, k, row' => by
    simp only [List.map_cons, setR, rput]
    have : R.root.key = R.key := rfl
    rw [this]
    have ih := setR_root (gr := gr) (k := k) (row' := row')
    simp only [rput] at ih
    cases keyEq R.key k with
    | true => simp only [cond_true, ih]; rfl
    | false => simp only [cond_false, ih]

theorem mem_rput {gr : List GR} {k : Key} {row' : List GV} {S : GR} (h : S ∈ rput gr k row') : (S ∈ gr ∧ S.key ≠ k) ∨ ∃ R, R ∈ gr ∧ R.key = k ∧ S = { R with row := row' } := by
  obtain ⟨R, hR, e⟩ := List.mem_map.1 h
  cases hk : keyEq R.key k with
  | true => rw [hk] at e; exact .inr ⟨R, hR, keyEq_iff.1 hk, e.symm⟩
  | false => rw [hk] at e; simp only [cond_false] at e; subst e; exact .inl ⟨hR, keyEq_false.1 hk⟩

theorem rput_other {gr : List GR} {k : Key} {row' : List GV} {S : GR} (h : S ∈ gr) (hk : S.key ≠ k) : S ∈ rput gr k row' :=
  List.mem_map.2 ⟨S, h, by rw [keyEq_false.2 hk]; rfl⟩

theorem rput_same {gr : List GR} {k : Key} {row' : List GV} {R : GR} (h : R ∈ gr) (hk : R.key = k) : { R with row := row' } ∈ rput gr k row' :=
  List.mem_map.2 ⟨R, h, by rw [keyEq_iff.2 hk]; rfl⟩

theorem rput_keys (gr : List GR) (k : Key) (row' : List GV) : (rput gr k row').map GR.key = gr.map GR.key := by
  unfold rput
  rw [List.map_map]
  apply List.map_congr_left
  intro R _
  simp only [Function.comp]
  cases keyEq R.key k <;> rfl

theorem gdel_rput (gr : List GR) (k : Key) (row' : List GV) : gdel (rput gr k row') k = gdel gr k := by
  induction gr with
  | nil => rfl
  | cons R gr ih =>
    simp only [gdel, rput, List.map_cons, List.filter_cons] at ih ⊢
    cases hk : keyEq R.key k with
    | true => simp only [cond_true, hk, Bool.not_true]; exact ih
    | false => simp only [cond_false, hk, Bool.not_false, if_true, List.cons.injEq, true_and]; exact ih

theorem rput_perm {gr : List GR} {R : GR} (hk : (gr.map GR.key).Nodup) (hR : R ∈ gr) (row' : List GV) :
    (extsR (rput gr R.key row')).Perm (({ R with row := row' } : GR).exts ++ extsR (gdel gr R.key)) := by
  have h := gdel_perm_of (gr := rput gr R.key row') (by rw [rput_keys]; exact hk) (rput_same hR rfl)
  have e : ({ R with row := row' } : GR).key = R.key := rfl
  rw [e, gdel_rput] at h
  exact h

def GV.deaden : GV → GV
  | .sl true sz n cap a cells => .sc (GV.sl true sz n cap a cells).val .dead
  | g => g

theorem GV.val_deaden (g : GV) : g.deaden.val = g.val := by
  cases g with
  | sc => rfl
  | sl own sz n cap a cells => cases own <;> rfl

theorem GV.abs_deaden {g : GV} (h : g.ok) : g.deaden.abs = g.abs.deaden := by
  cases g with
  | sc v p => cases p <;> first | rfl | exact h.elim
  | sl own sz n cap a cells => cases own <;> rfl

theorem deaden_map {w : World} {O : Nat → Nat → Prop} {gs : List GV} (h : SatL w O gs) :
    absL (gs.map GV.deaden) = (absL gs).map PV.deaden ∧ (gs.map GV.deaden).map GV.val = gs.map GV.val ∧ extsL (gs.map GV.deaden) = [] ∧ ∀ O', (∀ b o, O' b o → b < w.heap.size → O b o) → SatL w O' (gs.map GV.deaden) := by
  induction gs with
  | nil => exact ⟨rfl, rfl, rfl, fun _ _ => trivial⟩
  | cons g gs ih =>
    simp only [SatL] at h
    obtain ⟨i1, i2, i3, i4⟩ := ih h.2
    have hok := GV.ok_of_sat h.1
    refine ⟨?_, ?_, ?_, ?_⟩
    · simp only [List.map_cons, GV.absL, i1, GV.abs_deaden hok]
    · simp only [List.map_cons, i2, GV.val_deaden]
    · simp only [List.map_cons, GV.extsL, i3, List.append_nil]
      cases g with
      | sc => rfl
      | sl own sz n cap a cells =>
        cases own with
        | true => rfl
        | false =>
          have := h.1
          simp only [Sat] at this
          exact GV.exts_fz ⟨rfl, this.2.2.2.2.2.1 trivial⟩
    · intro O' hO'
      simp only [List.map_cons, SatL]
      refine ⟨?_, i4 O' hO'⟩
      cases g with
      | sc v p => exact Sat_evo (Evo.refl w (fun _ _ => False)) (fun _ _ h => h.elim) hO' _ h.1 (fun _ _ _ h => h)
      | sl own sz n cap a cells =>
        cases own with
        | true => simp only [GV.deaden, Sat, ScOk, GV.val]; rfl
        | false => exact Sat_evo (Evo.refl w (fun _ _ => False)) (fun _ _ h => h.elim) hO' _ h.1 (fun _ _ _ h => h)

theorem base_len {R : GR} {row' : List GV} (h : row'.length = R.row.length) : ({ R with row := row' } : GR).base = R.base := by
  unfold GR.base
  simp only [h]

section
variable {Z : Nat → Nat → Prop} {w0 : World} {E0 : List Ext} {pins : List Pin} {gr : List GR} {a : Act} {w : World} {st : St}

theorem Rel.gtake (h : Rel Z w0 E0 pins gr a w st) {k r : Key} {p : List Nat} {n : Nat} {st' : St} (ht : st.takeInto k r p n = some st') {R : GR} (hR : R ∈ gr) (hr : R.key = r) {gs : List GV} (hg : getG p R.row n = some gs) :
    ∃ gr', Rel Z w0 E0 pins gr' a w st' ∧ ⟨k, none, gs⟩ ∈ gr' ∧ (∀ S, S ∈ gr → S.key ≠ r → S.key ≠ k → S ∈ gr') ∧ (∀ e, e ∈ st'.env → e ∈ st.env) := by
  unfold St.takeInto at ht
  split at ht
  · rename_i S hS
    split at ht
    · rename_i c hc
      cases hkr : keyEq r k with
      | true => rw [hkr] at ht; cases ht
      | false =>
        rw [hkr] at ht
        simp only [cond_false] at ht
        split at ht
        · rename_i st1 hst1
          obtain ⟨R', hR', hr', rfl⟩ := h.root hS
          obtain rfl := h.uniq hR' hR (hr'.trans hr.symm)
          have hsat := h.sat R' hR
          have hab := getP_absL p R'.row n hsat
          rw [hg] at hab
          have hc' : getP p (absL R'.row) n = some c := hc
          rw [hc'] at hab
          cases hab
          have hgs := getG_sat hsat hg
          obtain ⟨d1, d2, d3, d4⟩ := deaden_map hgs
          have hlen := getG_length hg
          -- the set on the ghost's side
          unfold St.setAt at hst1
          rw [hS] at hst1
          simp only [] at hst1
          split at hst1
          · rename_i row1 hrow1
            cases hst1
            rw [← d1] at hrow1
            have hset := setP_absL p R'.row (gs.map GV.deaden) hsat
            have hrow1' : setP p (absL R'.row) (absL (gs.map GV.deaden)) = some row1 := hrow1
            rw [hrow1'] at hset
            cases hsg : setG p R'.row (gs.map GV.deaden) with
            | none => rw [hsg] at hset; cases hset
            | some row' =>
              rw [hsg] at hset
              cases hset
              have hg' : getG p R'.row (gs.map GV.deaden).length = some gs := by rw [List.length_map, hlen]; exact hg
              obtain ⟨A, B, e1, e2⟩ := setG_exts hg' hsg
              rw [d3, List.append_nil] at e2
              unfold St.add at ht
              simp only [] at ht
              cases hpk : hasKey st.pk k with
              | true => rw [hpk] at ht; cases ht
              | false =>
                rw [hpk] at ht
                cases ht
                have hvals := (setG_ghost (O' := OW Z gr) (fun _ _ h => h) hsat hg' hsg d2 (d4 _ (fun b o h _ => h)) (fun _ _ _ => trivial)).2
                have hsrc : SrcOk Z w gr (rput gr r row') gs := by
                  refine ⟨?_, ⟨[], ?_⟩, hgs, by rw [rput_keys]; exact h.keys⟩
                  · intro S hS
                    rcases mem_rput hS with ⟨h1, _⟩ | ⟨S', h1, h2, rfl⟩
                    · exact .inl h1
                    · obtain rfl := h.uniq h1 hR (h2.trans hr.symm)
                      refine .inr ⟨S', hR, rfl, rfl, hvals.symm, fun O' hO' => ?_⟩
                      exact (setG_ghost (O := O') (O' := O') (fun _ _ h => h) (SatL_evo (Evo.refl w (fun _ _ => False)) (fun _ _ h => h.elim) hO' _ hsat (fun _ _ _ h => h)) hg' hsg d2 (d4 O' hO') (fun _ _ _ => trivial)).1
                  · subst hr
                    refine (gdel_perm_of h.keys hR).trans ?_
                    refine List.Perm.trans ?_ ((List.Perm.append_right _ (List.Perm.append_right _ (rput_perm h.keys hR row').symm)))
                    have hb : ({ R' with row := row' } : GR).base = R'.base := base_len (setG_length hsg)
                    simp only [GR.exts, e1, e2, hb, List.append_nil]
                    generalize R'.base = C
                    generalize extsL gs = G
                    generalize extsR (gdel gr R'.key) = Z
                    have q : (A ++ G ++ B).Perm (A ++ B ++ G) := by
                      rw [List.append_assoc, List.append_assoc]
                      exact List.perm_append_comm.append_left A
                    refine ((q.append_left C).append_right Z).trans ?_
                    simp only [List.append_assoc]
                    exact ((List.perm_append_comm.append_left B).append_left A).append_left C
                have hroots : setR st.roots r (absL row') = (rput gr r row').map GR.root := by rw [h.roots]; exact setR_root
                rw [hroots, delR_root]
                refine ⟨_, (h.gnew hsrc hpk (loc := none) (row' := gs) (F := []) (Evo.refl w (fun _ _ => False)) (fun _ _ h => h.elim) (fun b o h => absurd h not_inE_nil) List.Pairwise.nil ?_ ?_ ?_ ?_ (env0 := keepE (TV.safe r p ((absL gs).map PV.deaden).length) st.env) ?_).1, ?_⟩
                · simp [GR.exts, GR.base]
                · exact fun O' hO' => SatL_evo (Evo.refl w (fun _ _ => False)) (fun _ _ h => h.elim) hO' _ hgs (fun _ _ _ h => h)
                · intro b o hb; cases hb
                · intro b o hb; cases hb
                · intro e he
                  obtain ⟨q1, q2⟩ := mem_keepE.1 he
                  refine ⟨q1, ?_⟩
                  have q3 : ((absL gs).map PV.deaden).length = (gs.map GV.deaden).length := by simp
                  rw [q3] at q2
                  refine TV.safe_keeps (k := r) (new := gs.map GV.deaden) (fun S hS hne => rput_other hS hne) ?_ q2
                  intro S hS hk
                  obtain rfl := h.uniq hS hR (hk.trans hr.symm)
                  exact ⟨_, rput_same hR hr, hr, rfl, hsg⟩
                · exact ⟨List.mem_cons_self, fun S hS h1 h2 => List.mem_cons_of_mem _ (mem_gdel.2 ⟨rput_other hS h1, h2⟩), fun e he => (mem_keepE.1 (mem_keepE.1 he).1).1⟩
          · cases hst1
        · cases ht
    · cases ht
  · cases ht

/-- What a source is, on the ghost's side. -/
structure SrcSpec (Z : Nat → Nat → Prop) (w : World) (st1 : St) (gr1 : List GR) (s : Src) (gs : List GV) (gr0 : List GR) : Prop where
  ok : SrcOk Z w gr1 gr0 gs
  roots : (st1.srcDrop s).roots = gr0.map GR.root
  env : ∀ e, e ∈ (st1.srcDrop s).env → e ∈ st1.env ∧ KeepsTV gr1 gr0 e.2
  pk : (st1.srcDrop s).pk = st1.pk
  nt : (st1.srcDrop s).nt = st1.nt
  mem : ∀ R, R ∈ gr0 → R ∈ gr1

theorem srcSpec_fro (h : Rel Z w0 E0 pins gr a w st) {row : List PV} {gs : List GV} (hs : SatL w (OW Z gr) gs) (he : extsL gs = []) : SrcSpec Z w st gr (.fro row) gs gr :=
  ⟨⟨fun R hR => .inl hR, ⟨[], by simp [he]⟩, hs, h.keys⟩, h.roots, fun e he => ⟨he, KeepsTV.of_sub (fun R h => h) _⟩, rfl, rfl, fun R h => h⟩

theorem srcSpec_root (h : Rel Z w0 E0 pins gr a w st) {k : Key} {R : GR} (hR : R ∈ gr) (hk : R.key = k) (hl : R.loc = none) : SrcSpec Z w st gr (.root k) R.row (gdel gr k) := by
  subst hk
  refine ⟨⟨fun S hS => .inl (mem_gdel.1 hS).1, ⟨[], ?_⟩, h.sat R hR, (gdel_keys h.keys).1⟩, ?_, ?_, rfl, rfl, fun S hS => (mem_gdel.1 hS).1⟩
  · rw [List.append_nil]
    refine (gdel_perm_of h.keys hR).trans ?_
    simp only [GR.exts, GR.base, hl, List.nil_append]
    exact List.perm_append_comm
  · show delR st.roots R.key = _
    rw [h.roots, delR_root]
  · intro e he
    obtain ⟨q1, q2⟩ := mem_keepE.1 he
    exact ⟨q1, TV.not_on (fun S hS hne => mem_gdel.2 ⟨hS, hne⟩) (by simpa using q2)⟩

theorem srcRow_root (h : Rel Z w0 E0 pins gr a w st) {k : Key} {row : List PV} (hr : st.srcRow (.root k) = some row) : ∃ R, R ∈ gr ∧ R.key = k ∧ R.loc = none ∧ absL R.row = row := by
  unfold St.srcRow at hr
  simp only [] at hr
  split at hr
  · rename_i S hS
    obtain ⟨R, hR, hk, rfl⟩ := h.root hS
    cases hv : R.root.virt with
    | false => rw [hv] at hr; cases hr
    | true =>
      rw [hv] at hr
      cases hr
      exact ⟨R, hR, hk, by simpa [GR.root] using hv, rfl⟩
  · cases hr

theorem Rel.gsrc (h : Rel Z w0 E0 pins gr a w st) {sk : Key} {z : List PV} {x : Operand} {agg : Bool} {st1 : St} {s : Src} (hs : st.src sk z x = some (agg, st1, s)) :
    ∃ gr1, Rel Z w0 E0 pins gr1 a w st1 ∧ (∀ e, e ∈ st1.env → e ∈ st.env) ∧ ∀ row, st1.srcRow s = some row → ∃ gs gr0, absL gs = row ∧ Packed agg gs (a.eval x) ∧ SrcSpec Z w st1 gr1 s gs gr0 ∧
      ∀ S, S ∈ gr → (∀ tv, st.opv x = some tv → tv.on S.key = false) → S.key ≠ sk → S ∈ gr0 := by
  unfold St.src at hs
  split at hs
  · rename_i agg' row' hx
    cases hs
    obtain ⟨gs, h1, h2, h3, h4⟩ := h.opv hx
    refine ⟨gr, h, fun e he => he, fun row hr => ?_⟩
    cases hr
    exact ⟨gs, gr, h1, h4, srcSpec_fro h h3 (GV.extsL_fz h2), fun S hS _ _ => hS⟩
  · rename_i hx
    split at hs
    · rename_i sz
      cases hs
      have hv : a.eval x = .slice none 0 0 := h.opv hx
      refine ⟨gr, h, fun e he => he, fun row hr => ?_⟩
      cases hr
      exact ⟨[.sl true sz 0 0 none []], gr, rfl, ⟨_, rfl, hv⟩, srcSpec_fro h (by simp [SatL, Sat, Mem]) rfl, fun S hS _ _ => hS⟩
    · cases hs
  · rename_i agg' r p n hx
    obtain ⟨R, hR, hr, gs, hg, hv⟩ := h.opv hx
    split at hs
    · rename_i S hS
      cases hw : isWhole S p n with
      | true =>
        rw [hw] at hs
        cases hs
        refine ⟨gr, h, fun e he => he, fun row hrow => ?_⟩
        obtain ⟨R', hR', hr', hl, rfl⟩ := srcRow_root h hrow
        obtain rfl := h.uniq hR' hR (hr'.trans hr.symm)
        refine ⟨R'.row, _, rfl, ?_, srcSpec_root h hR hr hl, fun S hS hn _ => mem_gdel.2 ⟨hS, fun e => ?_⟩⟩
        rotate_left
        · have := hn _ hx
          simp only [TV.on] at this
          exact keyEq_false.1 this e.symm
        obtain ⟨R2, hR2, hr2, rfl⟩ := h.root hS
        obtain rfl := h.uniq hR2 hR (hr2.trans hr.symm)
        unfold isWhole at hw
        split at hw
        · simp only [Bool.and_eq_true, Nat.beq_eq] at hw
          have hn : n = R2.row.length := by rw [hw.2]; simp [GR.root]
          simp only [getG, Nat.zero_add, List.drop_zero] at hg
          rw [if_pos (by omega), hn, List.take_length] at hg
          cases hg
          exact hv
        · cases hw
      | false =>
        rw [hw] at hs
        simp only [cond_false] at hs
        split at hs
        · rename_i c hc
          cases ho : hasOwn c with
          | true =>
            rw [ho] at hs
            simp only [cond_true] at hs
            split at hs
            · rename_i st2 hst
              cases hs
              obtain ⟨gr', hrel, hmem, hoth, henv⟩ := h.gtake hst hR hr hg
              refine ⟨gr', hrel, henv, fun row hrow => ?_⟩
              obtain ⟨R', hR', hr', hl, rfl⟩ := srcRow_root hrel hrow
              obtain rfl := hrel.uniq hR' hmem hr'
              refine ⟨gs, _, rfl, hv, srcSpec_root hrel hmem rfl rfl, fun S hS hn hk => mem_gdel.2 ⟨hoth S hS (fun e => ?_) hk, hk⟩⟩
              have := hn _ hx
              simp only [TV.on] at this
              exact keyEq_false.1 this e.symm
            · cases hs
          | false =>
            rw [ho] at hs
            cases hs
            obtain ⟨R2, hR2, hr2, rfl⟩ := h.root hS
            obtain rfl := h.uniq hR2 hR (hr2.trans hr.symm)
            have hab := getP_absL p R2.row n (h.sat R2 hR)
            rw [hg] at hab
            have hc' : getP p (absL R2.row) n = some c := hc
            rw [hc'] at hab
            cases hab
            have hgs := getG_sat (h.sat R2 hR) hg
            refine ⟨gr, h, fun e he => he, fun row hr => ?_⟩
            cases hr
            exact ⟨gs, gr, rfl, hv, srcSpec_fro h hgs (GV.extsL_fz (hasOwn_false_fz hgs ho)), fun S hS _ _ => hS⟩
        · cases hs
    · cases hs
  · cases hs

/-! ### operations that change roots: the evaluator -/

def evAlloc (T : Tab) (st : St) (d elem : Nat) : Option (St × TV) :=
  match T.get elem with
  | some e => match st.add (d, 0) false e.zero with
    | some st1 => some (st1, .adr (d, 0) [0])
    | none => none
  | none => none

def evBox (T : Tab) (st : St) (d elem : Nat) (x : Operand) : Option (St × TV) :=
  match T.get elem with
  | some e => match st.src (d, 1) e.zero x with
    | some (_, st1, s) => match st1.srcRow s with
      | some row => match (st1.srcDrop s).add (d, 0) false row with
        | some st2 => some (st2, .adr (d, 0) [0])
        | none => none
      | none => none
    | none => none
  | none => none

/-- A box of a value whose root is pinned: a place that holds the same. -/
def evBoxS (st : St) (x : Operand) : Option TV :=
  match st.opv x with
  | some (.view _ r [0] n) => match rlk st.roots r with
    | some R => bif hasKey st.pk r && Nat.beq n R.row.length then some (.sh r 0 n) else none
    | none => none
  | _ => none

def evAssign (T : Tab) (st : St) (d t : Nat) (x : Operand) : Option (St × TV) :=
  match st.opv x with
  | some .nil => match T.get t with
    | some ⟨_, _, .slice _, [.sl true sz 0 []], _⟩ => match st.add (d, 0) true [.sl true sz 0 []] with
      | some st1 => some (st1, .view false (d, 0) [0] 1)
      | none => none
    | _ => none
  | some (.view agg r p n) => match rlk st.roots r with
    | some R => bif isWhole R p n then (bif keyEq r (d, 0) then some (st, .view agg r p n) else
        match (st.drop r).add (d, 0) true R.row with
        | some st1 => some (st1, .view agg (d, 0) [0] n)
        | none => none) else some (st, .view agg r p n)
    | none => none
  | some (.grd _ _) => none
  | some tv => some (st, tv)
  | none => none

def evStore (T : Tab) (st : St) (t : Nat) (x y : Operand) : Option St :=
  match T.get t with
  | some e => match st.src (st.nt, 0) e.zero y with
    | some (_, st1, s) => match st1.srcRow s, (st1.srcDrop s).opv x with
      | some row, some (.adr r p) => bif Nat.beq row.length e.size then (st1.srcDrop s).setAt r p row else none
      | _, _ => none
    | none => none
  | none => none

section
variable {P : Program} {T : Tab} (hT : TabOk P T)
include hT

omit hT in
theorem perm_self (l : List Ext) : (l ++ []).Perm l := by simp

theorem evAlloc_ok (h : Rel Z w0 E0 pins gr a w st) {d elem : Nat} {st' : St} {tv : TV} (he : evAlloc T st d elem = some (st', tv)) :
    ∃ v w' gr', (Instr.alloc elem true (.tuple #[])).run P w = .ok v w' ∧ Rel Z w0 E0 pins gr' a w' st' ∧ TVOk Z w' gr' v tv := by
  unfold evAlloc at he
  split at he
  · rename_i e hte
    split at he
    · rename_i st1 hst
      cases he
      unfold St.add at hst
      cases hpk : hasKey st.pk (d, 0) with
      | true => rw [hpk] at hst; cases hst
      | false =>
        rw [hpk] at hst
        cases hst
        obtain ⟨z, hz, hzc⟩ := run_zero hT w hte
        have hok := hT elem e hte
        have hcs : z.cells = ((e.zero.map PV.zg).map GV.val).toArray := by
          apply Array.ext'
          rw [hzc]; simp
        have hsrc : SrcOk Z w gr gr (e.zero.map PV.zg) := ⟨fun R hR => .inl hR, ⟨[], by simp [extsL_zg]⟩, satL_zg hok.zs, h.keys⟩
        have hmem := mem_alloc w (e.zero.map PV.zg) [] elem
        simp only [List.append_nil] at hmem
        obtain ⟨r1, _⟩ := h.gnew hsrc hpk (loc := some (w.heap.size, 0)) (row' := e.zero.map PV.zg) (F := [.reg w.heap.size 0 e.zero.length]) (evo_alloc w (.cells z.cells elem) (fun _ _ => False)) (fun _ _ h => h.elim)
          (fun b o he => by have := inE_one.1 he; simp only [Ext.has] at this; omega) (List.pairwise_singleton _ _)
          (by simp [GR.exts, GR.base, extsL_zg])
          (fun O' hO' => satL_zg hok.zs) (by rw [hcs]; exact hmem)
          (fun b o hb => by cases hb; rw [hcs]; exact blk_alloc w _ elem (by simp)) (env0 := st.env) (fun e he => ⟨he, KeepsTV.of_sub (fun R h => h) _⟩)
        refine ⟨.pointer (some (addrOf (w.heap.size, 0))), w.alloc (.cells z.cells elem), ⟨(d, 0), some (w.heap.size, 0), e.zero.map PV.zg⟩ :: gdel gr (d, 0), ?_, ?_, ⟨_, List.mem_cons_self, rfl, (w.heap.size, 0), rfl, rfl⟩⟩
        · simp only [Instr.alloc, newVar, newRow, Sem.run_bind, hz, Result.andThen_ok, run_newObj, Sem.run_pure]
          rfl
        · have e1 : (⟨(d, 0), some (w.heap.size, 0), e.zero.map PV.zg⟩ : GR).root = ⟨(d, 0), false, e.zero⟩ := by simp [GR.root, absL_zg hok.zs]
          rw [e1, ← delR_root, ← h.roots] at r1
          exact r1
    · cases he
  · cases he

theorem evBox_ok (h : Rel Z w0 E0 pins gr a w st) {d elem : Nat} {x : Operand} {st' : St} {tv : TV} (he : evBox T st d elem x = some (st', tv)) :
    ∃ v w' gr', (Instr.box elem (a.eval x)).run P w = .ok v w' ∧ Rel Z w0 E0 pins gr' a w' st' ∧ TVOk Z w' gr' v tv := by
  unfold evBox at he
  split at he
  · rename_i e hte
    split at he
    · rename_i agg st1 s hsrc
      split at he
      · rename_i row hrow
        split at he
        · rename_i st2 hst
          cases he
          obtain ⟨gr1, h1, _, hsp⟩ := h.gsrc hsrc
          obtain ⟨gs, gr0, rfl, hv, sp, _⟩ := hsp row hrow
          unfold St.add at hst
          rw [sp.pk] at hst
          cases hpk : hasKey st1.pk (d, 0) with
          | true => rw [hpk] at hst; cases hst
          | false =>
            rw [hpk] at hst
            cases hst
            have hcs : (a.eval x).cells = (gs.map GV.val).toArray := by
              rw [hv.eq]
              cases agg with
              | true => rfl
              | false =>
                obtain ⟨g, rfl, hg⟩ := hv
                have := GV.val_one (SatL_iff.1 sp.ok.sat g (by simp))
                simp only [pack, List.map_cons, List.map_nil]
                cases hgv : g.val <;> simp_all [Value.cells, Value.oneCell']
            have hmem := mem_alloc w gs [] elem
            simp only [List.append_nil] at hmem
            obtain ⟨r1, _⟩ := h1.gnew sp.ok hpk (loc := some (w.heap.size, 0)) (row' := gs) (F := [.reg w.heap.size 0 gs.length]) (evo_alloc w (.cells (a.eval x).cells elem) (fun _ _ => False)) (fun _ _ h => h.elim)
              (fun b o he => by have := inE_one.1 he; simp only [Ext.has] at this; omega) (List.pairwise_singleton _ _)
              (by simp only [GR.exts, GR.base]; exact List.perm_append_comm)
              (fun O' hO' => SatL_evo (evo_alloc w _ (fun _ _ => False)) (fun _ _ h => h.elim) hO' _ sp.ok.sat (fun _ _ _ h => h)) (by rw [hcs]; exact hmem)
              (fun b o hb => by cases hb; rw [hcs]; exact blk_alloc w _ elem (by simp)) (env0 := (st1.srcDrop s).env) sp.env
            refine ⟨.pointer (some (addrOf (w.heap.size, 0))), w.alloc (.cells (a.eval x).cells elem), ⟨(d, 0), some (w.heap.size, 0), gs⟩ :: gdel gr0 (d, 0), ?_, ?_, ?_⟩
            · simp only [Instr.box, newVar, newRow, Sem.run_bind, Result.andThen_ok, run_newObj, Sem.run_pure]
              rfl
            · have e1 : (⟨(d, 0), some (w.heap.size, 0), gs⟩ : GR).root = ⟨(d, 0), false, absL gs⟩ := rfl
              rw [e1, ← delR_root, ← sp.roots] at r1
              rw [sp.nt]
              exact r1
            · exact ⟨_, List.mem_cons_self, rfl, (w.heap.size, 0), rfl, rfl⟩
        · cases he
      · cases he
    · cases he
  · cases he

omit hT in
/-- A value in flight gets a new key. -/
theorem Rel.gkey (h : Rel Z w0 E0 pins gr a w st) {s : Src} {gs : List GV} {gr0 : List GR} (sp : SrcSpec Z w st gr s gs gr0) {k : Key} {st' : St} (hst : (st.srcDrop s).add k true (absL gs) = some st') :
    ∃ gr', Rel Z w0 E0 pins gr' a w st' ∧ ⟨k, none, gs⟩ ∈ gr' := by
  unfold St.add at hst
  rw [sp.pk] at hst
  cases hpk : hasKey st.pk k with
  | true => rw [hpk] at hst; cases hst
  | false =>
    rw [hpk] at hst
    cases hst
    obtain ⟨r1, _⟩ := h.gnew sp.ok hpk (loc := none) (row' := gs) (F := []) (Evo.refl w (fun _ _ => False)) (fun _ _ h => h.elim) (fun b o h => absurd h not_inE_nil) List.Pairwise.nil
      (by simp [GR.exts, GR.base]) (fun O' hO' => SatL_evo (Evo.refl w (fun _ _ => False)) (fun _ _ h => h.elim) hO' _ sp.ok.sat (fun _ _ _ h => h))
      (by intro b o hb; cases hb) (by intro b o hb; cases hb) (env0 := (st.srcDrop s).env) sp.env
    have e1 : (⟨k, none, gs⟩ : GR).root = ⟨k, true, absL gs⟩ := rfl
    rw [e1, ← delR_root, ← sp.roots] at r1
    refine ⟨⟨k, none, gs⟩ :: gdel gr0 k, ?_, List.mem_cons_self⟩
    rw [sp.nt]
    exact r1

theorem evBoxS_ok (h : Rel Z w0 E0 pins gr a w st) {elem : Nat} {x : Operand} {tv : TV} (he : evBoxS st x = some tv) :
    ∃ v w' gr', (Instr.box elem (a.eval x)).run P w = .ok v w' ∧ Rel Z w0 E0 pins gr' a w' st ∧ TVOk Z w' gr' v tv := by
  unfold evBoxS at he
  split at he
  · rename_i agg r n hx
    split at he
    · rename_i S hS
      cases hb : hasKey st.pk r && Nat.beq n S.row.length with
      | false => rw [hb] at he; cases he
      | true =>
        rw [hb] at he
        simp only [cond_true] at he
        cases he
        obtain ⟨R, hR, hr, gs, hg, hv⟩ := h.opv hx
        have hsat := getG_sat (h.sat R hR) hg
        have hcs : (a.eval x).cells = (gs.map GV.val).toArray := by
          rw [hv.eq]
          cases agg with
          | true => rfl
          | false =>
            obtain ⟨g, rfl, hg'⟩ := hv
            have := GV.val_one (SatL_iff.1 hsat g (by simp))
            simp only [pack, List.map_cons, List.map_nil]
            cases hgv : g.val <;> simp_all [Value.cells, Value.oneCell']
        have hmem := mem_alloc w gs [] elem
        simp only [List.append_nil] at hmem
        have hr1 := (h.update (gr' := gr) (F := []) (D := []) (X := fun _ _ => False) (evo_alloc w (.cells (a.eval x).cells elem) (fun _ _ => False)) (fun _ _ h => h.elim) (fun b o h => absurd h not_inE_nil) List.Pairwise.nil
          (by simp) h.keys (fun R hR => .inl ⟨hR, fun _ _ _ h => h⟩) (fun p hp => h.pin p hp) (env' := st.env) (fun e he => ⟨he, KeepsTV.of_sub (fun R h => h) _⟩)).1
        refine ⟨.pointer (some (addrOf (w.heap.size, 0))), w.alloc (.cells (a.eval x).cells elem), gr, ?_, ?_, R, hR, hr, gs, hg, w.heap.size, 0, rfl, fun i g hi => ?_, fun i hi hin => ?_⟩
        · simp only [Instr.box, newVar, newRow, Sem.run_bind, Result.andThen_ok, run_newObj, Sem.run_pure]
          rfl
        · rw [← h.roots] at hr1
          exact hr1
        · rw [hcs]; exact hmem _ _ rfl i g hi
        · have := h.lt _ _ hin
          omega
    · cases he
  · cases he

theorem evAssign_ok (h : Rel Z w0 E0 pins gr a w st) {d t : Nat} {x : Operand} {st' : St} {tv : TV} (he : evAssign T st d t x = some (st', tv)) :
    ∃ gr', Rel Z w0 E0 pins gr' a w st' ∧ TVOk Z w gr' (a.eval x) tv := by
  unfold evAssign at he
  split at he
  · rename_i hx
    split at he
    · rename_i el sz _ ht
      split at he
      · rename_i st1 hst
        cases he
        have hv : a.eval x = .slice none 0 0 := h.opv hx
        have sp : SrcSpec Z w st gr (.fro [.sl true sz 0 []]) [.sl true sz 0 0 none []] gr := srcSpec_fro h (by simp [SatL, Sat, Mem]) rfl
        obtain ⟨gr', h1, h2⟩ := h.gkey sp hst
        exact ⟨gr', h1, _, h2, rfl, [.sl true sz 0 0 none []], rfl, _, rfl, hv⟩
      · cases he
    · cases he
  · rename_i agg r p n hx
    obtain ⟨R, hR, hr, gs, hg, hv⟩ := h.opv hx
    split at he
    · rename_i S hS
      obtain ⟨R2, hR2, hr2, rfl⟩ := h.root hS
      obtain rfl := h.uniq hR2 hR (hr2.trans hr.symm)
      cases hw : isWhole R2.root p n with
      | true =>
        rw [hw] at he
        simp only [cond_true] at he
        cases hke : keyEq r (d, 0) with
        | true =>
          rw [hke] at he
          cases he
          exact ⟨gr, h, R2, hR, hr, gs, hg, hv⟩
        | false =>
          rw [hke] at he
          simp only [cond_false] at he
          split at he
          · rename_i st1 hst
            cases he
            unfold isWhole at hw
            split at hw
            · simp only [Bool.and_eq_true, Nat.beq_eq] at hw
              have hn : n = R2.row.length := by rw [hw.2]; simp [GR.root]
              have hl : R2.loc = none := by simpa [GR.root] using hw.1
              simp only [getG, Nat.zero_add, List.drop_zero] at hg
              rw [if_pos (by omega), hn, List.take_length] at hg
              cases hg
              have sp := srcSpec_root h hR hr hl
              obtain ⟨gr', h1, h2⟩ := h.gkey sp hst
              refine ⟨gr', h1, _, h2, rfl, R2.row, ?_, hv⟩
              simp only [getG, Nat.zero_add, List.drop_zero]
              rw [if_pos (by omega), hn, List.take_length]
            · cases hw
          · cases he
      | false =>
        rw [hw] at he
        cases he
        exact ⟨gr, h, R2, hR, hr, gs, hg, hv⟩
    · cases he
  · cases he
  · rename_i tv' hne1 hne2 hne3 hx
    cases he
    exact ⟨gr, h, h.opv hx⟩
  · cases he

end

end

end Go.Proofs.YtddfcajdelfikaaDoor.Vm
