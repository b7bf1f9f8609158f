/- Rules as the printed proofs use them: calculations are done on the way, with the facts F. -/
import Derived.Test.YtddfcajdelfikaaDoorVm31
set_option linter.unusedVariables false
set_option linter.unusedSimpArgs false
set_option linter.unusedSectionVars false
namespace Go.Proofs.YtddfcajdelfikaaDoor.Vm
open Go
open GV (absL extsL fzL)
open PV (frzL)

attribute [go_sem] xs pickI hasI restr getE getR otherK offKs offKs.offK noDup hasKey keysE rowOf rowsOf layAll Option.bind_some Option.bind_none

theorem nth_at {ops : Array Oper} {i : Nat} {o : Oper} (h : nthO ops.toList i = some o) : ops[i]? = some o := by
  rw [nthO_eq, Array.getElem?_toList] at h
  exact h

/-! ### a tuple is moved -/

def movT (s d : Nat) : List (Key × TV) → List (Key × TV)
  | [] => []
  | ((t, c), tv) :: r => match c with
    | 0 => movT s d r
    | c' + 1 => if t = s then ((d, c' + 1), tv) :: movT s d r else movT s d r

theorem mem_movT {s d : Nat} : ∀ {env : List (Key × TV)} {e : Key × TV}, e ∈ movT s d env → ∃ c, e.1 = (d, c + 1) ∧ ((s, c + 1), e.2) ∈ env
  | [], e, h => by cases h
  | ((t, 0), tv) :: r, e, h => by
    obtain ⟨c, h1, h2⟩ := mem_movT (env := r) h
    exact ⟨c, h1, List.mem_cons_of_mem _ h2⟩
  | ((t, c + 1), tv) :: r, e, h => by
    simp only [movT] at h
    split at h
    · rename_i ht
      rcases List.mem_cons.1 h with rfl | h
      · exact ⟨c, rfl, by rw [← ht]; exact List.mem_cons_self⟩
      · obtain ⟨c, h1, h2⟩ := mem_movT (env := r) h
        exact ⟨c, h1, List.mem_cons_of_mem _ h2⟩
    · obtain ⟨c, h1, h2⟩ := mem_movT (env := r) h
      exact ⟨c, h1, List.mem_cons_of_mem _ h2⟩

attribute [go_sem] movT

section
variable {P : Program} {T : Tab} {ops : Array Oper} {st st' : St} {Q : St → Prop}

theorem step_movT {i : Nat} {o : Oper} {s d : Nat} (ho : ops[i]? = some o) (hop : o.op = .move (.tmp s)) (hd : o.dst = some d) (hg : o.guard = none) (hlt : Nat.blt d st.nt = true) (hne : ∃ c tv, lk st.env s (c + 1) = some tv) (hst : { st with env := movT s d st.env ++ del st.env d } = st') :
    Stp P ops i st st' := by
  intro Z w0 E0 pins gr a w hr K Q' hK
  rw [nat_blt, decide_eq_true_eq] at hlt
  unfold wpOp
  rw [ho]
  have hw : Region.wanted o (yielded ops a.tmps) = true := by unfold Region.wanted; rw [hg]
  simp only [hw, if_true]
  refine .inl ?_
  have hx : (execOp a.eval o).run P w = .ok (.value (a.eval (.tmp s))) w := by
    unfold execOp; rw [hop]; rfl
  unfold Oper.wp
  rw [hx, Oper.upon_value, hd]
  refine hK gr _ w ?_
  obtain ⟨c0, tv0, h0⟩ := hne
  obtain ⟨_, vs, v0, hvs, _, _⟩ := hr.env _ (lk_mem h0)
  have hev : a.eval (.tmp s) = .tuple vs := hvs
  rw [hev]
  have hr2 : Rel Z w0 E0 pins gr a w { st with env := del st.env d } := hr.weaken fun e he => (mem_del.1 he).1
  have := hr2.gputs (d := d) hlt (fun e he => (mem_del.1 he).2) (v := .tuple vs) (new := movT s d st.env) (fun e he => by
    obtain ⟨c, h1, h2⟩ := mem_movT he
    refine ⟨by rw [h1], .inr ?_⟩
    obtain ⟨_, vs', v, q1, q2, q3⟩ := hr.env _ h2
    rw [hvs] at q1
    cases q1
    exact ⟨c, vs, v, by rw [h1], rfl, q2, q3⟩)
  rw [← hst]
  exact this

theorem run_stp {i k : Nat} (h : Stp P ops i st st') (hk : Run P ops (i + 1) k st' Q) : Run P ops i (k + 1) st Q := by
  unfold Run at hk ⊢
  rw [List.range'_succ]
  intro Z w0 E0 pins gr a w hr K hK
  rw [wpOps_cons]
  exact h Z w0 E0 pins gr a w hr _ _ fun gr' a' w' hr' => hk Z w0 E0 pins gr' a' w' hr' K hK
end

/-- A slice is looked at as a window of itself. -/
theorem into_win {st : St} (t : Nat) {r : Key} {p : List Nat} {R : Root} {sz m : Nat} {cells : List PV} (hl : lk st.env t 0 = some (.view false r p 1)) (hR : rlk st.roots r = some R) (hg : getP p R.row 1 = some [.sl true sz m cells]) :
    Into st { st with env := ((t, 0), .win r p 0 m) :: del st.env t } := by
  intro Z w0 E0 pins gr a w h
  refine ⟨gr, { h with env := ?_ }⟩
  intro e he
  rcases List.mem_cons.1 he with rfl | he
  · obtain ⟨h1, R1, hR1, hk1, gs, hgs, hpk⟩ := h.env _ (lk_mem hl)
    obtain ⟨R2, hR2, hr2, rfl⟩ := h.root hR
    obtain rfl := h.uniq hR2 hR1 (hr2.trans hk1.symm)
    have hab := getP_absL p R2.row 1 (h.sat R2 hR2)
    rw [hgs] at hab
    have hc' : getP p (absL R2.row) 1 = some [.sl true sz m cells] := hg
    rw [hab] at hc'
    have hsg := getG_sat (h.sat R2 hR2) hgs
    obtain ⟨g, rfl, hv⟩ := hpk
    simp only [Option.map_some, GV.absL, Option.some.injEq, List.cons.injEq, and_true] at hc'
    simp only [SatL, and_true] at hsg
    cases g with
    | sc v q =>
      simp only [GV.abs] at hc'
      subst hc'
      cases v <;> simp [Sat, ScOk] at hsg
    | sl own sz' n cap x gc =>
      simp only [GV.abs, PV.sl.injEq] at hc'
      obtain ⟨rfl, rfl, rfl, rfl⟩ := hc'
      simp only [Sat] at hsg
      obtain ⟨s1, s2, s3, s4, s5, s6, s7⟩ := hsg
      refine ⟨h1, R2, hR2, hr2, sz', n, cap, x, gc, x, cap, hgs, by omega, s2, hv, s3, fun hn => ?_, fun b o' hy => ⟨o', hy, Nat.le_refl _⟩⟩
      cases x with
      | none => have := (s3 rfl).1; omega
      | some y => exact ⟨y.1, y.2, rfl, by simp⟩
  · exact h.env e (mem_del.1 he).1

/-! ### in a drawn region -/

section
variable {P : Program} {T : Tab} {ops : Array Oper} {st st' : St} {Q : St → Prop} {fuel i : Nat} {listed : Array Bool}

/-- A field's place goes first. -/
theorem any_faddr (hT : TabOk P T) {o : Oper} {x : Operand} {d s f : Nat} {tv : TV} (ho : ops[i]? = some o) (hop : o.op = .fieldAddr s x f) (hd : o.dst = some d) (hgd : o.guard = none) (hs : Region.noSelect ops = true) (hf : Region.free .any ops listed i = true)
    (hr : (Region.ready .any ops listed).contains i = true) (htv : evFieldAddr T st true s x f = some tv) (hp : st.put d tv = some st')
    (h : RunAny P ops fuel (listed.setIfInBounds i true) st' Q) : RunAny P ops (fuel + 1) listed st Q := by
  intro Z w0 E0 pins gr a w hrel
  have hw : Region.wanted o (yielded ops a.tmps) = true := by unfold Region.wanted; rw [hgd]
  have hQ : ∀ v, ∀ c (a : Act) w, NormQ Z w0 E0 pins Q (.panic c) (a.put o.dst v) w → NormQ Z w0 E0 pins Q (.panic c) a w := fun _ _ _ _ h => h.elim
  obtain ⟨v, h1, h2⟩ := evFieldAddr_ok (P := P) hT hrel rfl htv
  have hall : ∀ w', (Instr.fieldAt s (a.eval x) f).run P w' = .ok v w' := by
    unfold evFieldAddr at htv
    split at htv
    · rename_i off e r p hf hx
      obtain ⟨R, hR, hr, ⟨b, o'⟩, hy, hv⟩ := hrel.opg hx rfl
      split at htv
      · rename_i hs
        intro w'
        rw [hv] at h1 ⊢
        have e1 := run_fieldAt hT hf hs b o' (w := w)
        have e2 := h1.symm.trans e1
        cases e2
        exact run_fieldAt hT hf hs b o'
      · cases htv
    · rename_i off e row hf hx
      obtain ⟨gs, b, o', q1, q2, q3, q4, q5, hv⟩ := hrel.opg hx rfl
      split at htv
      · rename_i hs
        intro w'
        rw [hv] at h1 ⊢
        have e1 := run_fieldAt hT hf hs b o' (w := w)
        have e2 := h1.symm.trans e1
        cases e2
        exact run_fieldAt hT hf hs b o'
      · cases htv
    · rename_i off e r q m hf hx
      obtain ⟨R, hR, hr, gs, hg, b, o', hv, hm, hn⟩ := hrel.opg hx rfl
      split at htv
      · rename_i hs
        intro w'
        rw [hv] at h1 ⊢
        have e1 := run_fieldAt hT hf hs b o' (w := w)
        have e2 := h1.symm.trans e1
        cases e2
        exact run_fieldAt hT hf hs b o'
      · cases htv
    · cases htv
  refine wpAny_take ho hs hf hr (hQ v) (.inl ⟨hw, fun w' => ?_⟩) ?_
  · unfold execOp; rw [hop]; simp only [Sem.run_bind, hall w', Result.andThen_ok, Sem.run_pure]
  · rw [hd]
    exact h Z w0 E0 pins gr _ w (hrel.gput h2 hp)

/-- An assignment of plain values goes first. -/
theorem any_asg {o : Oper} {x : Operand} {d : Nat} {tv : TV} (ho : ops[i]? = some o) (hop : o.op = .assign x) (hd : o.dst = some d) (hgd : o.guard = none) (hs : Region.noSelect ops = true) (hf : Region.free .any ops listed i = true)
    (hr : (Region.ready .any ops listed).contains i = true) (htv : st.opg true x = some tv) (hp : st.put d tv = some st')
    (h : RunAny P ops fuel (listed.setIfInBounds i true) st' Q) : RunAny P ops (fuel + 1) listed st Q := by
  intro Z w0 E0 pins gr a w hrel
  have hw : Region.wanted o (yielded ops a.tmps) = true := by unfold Region.wanted; rw [hgd]
  have hQ : ∀ v, ∀ c (a : Act) w, NormQ Z w0 E0 pins Q (.panic c) (a.put o.dst v) w → NormQ Z w0 E0 pins Q (.panic c) a w := fun _ _ _ _ h => h.elim
  have h2 := hrel.opg htv rfl
  refine wpAny_take ho hs hf hr (hQ (a.eval x)) (.inl ⟨hw, fun w' => ?_⟩) ?_
  · unfold execOp; rw [hop]; rfl
  · rw [hd]
    exact h Z w0 E0 pins gr _ w (hrel.gput h2 hp)
end

/-! ### rules -/

section
variable {P : Program} {T : Tab} {ops : Array Oper} {st st' : St}

/-- A contract that tells just what comes. -/
def GoodD (P : Program) (f : FuncId) (args : List PArg) (rets : List (Bool × List PV)) (outs : List (List PV)) : Prop := Good P f args fun r o => r = rets ∧ o = outs

theorem k_seq (hT : TabOk P T) {id : Nat} {y : Code} {Q : Exit → St → Prop} (h : Tri P y st' Q) (he : evL T ops.toList ops.toList st = some st' := by simp only [go_sem, reduceIte, Nat.reduceLT, Nat.reduceLeDiff, Nat.reduceEqDiff, Nat.reduceAdd, Nat.reduceSub, Nat.reduceMul, Nat.reduceBEq, Int.reduceEq, Int.reduceToNat, UInt8.reduceToNat, F] <;> rfl) : Tri P (.seq (.region id ops false) y) st Q :=
  tri_seq (tri_ops hT he h)

theorem k_one (hT : TabOk P T) {id : Nat} {Q : Exit → St → Prop} (h : Q .normal st') (he : evL T ops.toList ops.toList st = some st' := by simp only [go_sem, reduceIte, Nat.reduceLT, Nat.reduceLeDiff, Nat.reduceEqDiff, Nat.reduceAdd, Nat.reduceSub, Nat.reduceMul, Nat.reduceBEq, Int.reduceEq, Int.reduceToNat, UInt8.reduceToNat, F] <;> rfl) : Tri P (.region id ops false) st Q :=
  tri_ops hT he h

theorem k_runs {id : Nat} {y : Code} {Q : Exit → St → Prop} (k : Nat) (h : Run P ops 0 k st fun s => Tri P y s Q) (hk : ops.size = k := by rfl) : Tri P (.seq (.region id ops false) y) st Q :=
  tri_seq (tri_run hk h)

theorem k_run1 {id : Nat} {Q : Exit → St → Prop} (k : Nat) (h : Run P ops 0 k st (Q .normal)) (hk : ops.size = k := by rfl) : Tri P (.region id ops false) st Q :=
  tri_run hk h

theorem r_ops {i : Nat} {Q : St → Prop} (hT : TabOk P T) (n k : Nat) {l : List Oper} (h : Run P ops (i + n) k st' Q) (hl : (ops.toList.drop i).take n = l := by rfl) (hn : Nat.ble (i + n) ops.size = true := by rfl) (he : evL T ops.toList l st = some st' := by simp only [go_sem, reduceIte, Nat.reduceLT, Nat.reduceLeDiff, Nat.reduceEqDiff, Nat.reduceAdd, Nat.reduceSub, Nat.reduceMul, Nat.reduceBEq, Int.reduceEq, Int.reduceToNat, UInt8.reduceToNat, F] <;> rfl) : Run P ops i (n + k) st Q :=
  run_ops hT n hl hn he h

theorem r_call {Q : St → Prop} (hT : TabOk P T) {i : Nat} (k : Nat) {o : Oper} {d : Nat} {fop : Operand} {xs : Array Operand} {ts : Array TypeId} {f : FuncId} {crs rs : List PassR} {rets : List (Bool × List PV)} {outs : List (List PV)}
    (ms : List Md) {args : List PArg} (hgood : GoodD P f args rets outs) (h : Run P ops (i + 1) k st' Q)
    (ho : nthO ops.toList i = some o := by simp only [go_sem, reduceIte, Nat.reduceLT, Nat.reduceLeDiff, Nat.reduceEqDiff, Nat.reduceAdd, Nat.reduceSub, Nat.reduceMul, Nat.reduceBEq, Int.reduceEq, Int.reduceToNat, UInt8.reduceToNat, F] <;> rfl) (hop : o.op = .call ⟨.value fop, xs, ts⟩ := by rfl) (hd : o.dst = some d := by rfl) (hg : evGuardL st ops.toList o.guard = some true := by simp only [go_sem, reduceIte, Nat.reduceLT, Nat.reduceLeDiff, Nat.reduceEqDiff, Nat.reduceAdd, Nat.reduceSub, Nat.reduceMul, Nat.reduceBEq, Int.reduceEq, Int.reduceToNat, UInt8.reduceToNat, F] <;> rfl) (hcal : calleeOf st fop = some (f, crs) := by simp only [go_sem, reduceIte, Nat.reduceLT, Nat.reduceLeDiff, Nat.reduceEqDiff, Nat.reduceAdd, Nat.reduceSub, Nat.reduceMul, Nat.reduceBEq, Int.reduceEq, Int.reduceToNat, UInt8.reduceToNat, F] <;> rfl)
    (hp : passAll T st ms xs.toList ts.toList = some rs := by simp only [go_sem, reduceIte, Nat.reduceLT, Nat.reduceLeDiff, Nat.reduceEqDiff, Nat.reduceAdd, Nat.reduceSub, Nat.reduceMul, Nat.reduceBEq, Int.reduceEq, Int.reduceToNat, UInt8.reduceToNat, F] <;> rfl) (hok : okPass (rs ++ crs) = true := by rfl) (hargs : (rs ++ crs).map PassR.x = args := by simp only [go_sem, reduceIte, Nat.reduceLT, Nat.reduceLeDiff, Nat.reduceEqDiff, Nat.reduceAdd, Nat.reduceSub, Nat.reduceMul, Nat.reduceBEq, Int.reduceEq, Int.reduceToNat, UInt8.reduceToNat, F] <;> rfl) (hb : back st (rs ++ crs) d rets outs = some st' := by simp only [go_sem, reduceIte, Nat.reduceLT, Nat.reduceLeDiff, Nat.reduceEqDiff, Nat.reduceAdd, Nat.reduceSub, Nat.reduceMul, Nat.reduceBEq, Int.reduceEq, Int.reduceToNat, UInt8.reduceToNat, F] <;> rfl) : Run P ops i (k + 1) st Q :=
  run_call hT ms (nth_at ho) hop hd hg hcal hp hok hgood hargs fun r o ⟨h1, h2⟩ => by subst h1; subst h2; exact ⟨st', hb, h⟩

theorem r_mov {i k : Nat} {Q : St → Prop} {o : Oper} {s d : Nat} (h : Run P ops (i + 1) k st' Q) (ho : nthO ops.toList i = some o := by simp only [go_sem, reduceIte, Nat.reduceLT, Nat.reduceLeDiff, Nat.reduceEqDiff, Nat.reduceAdd, Nat.reduceSub, Nat.reduceMul, Nat.reduceBEq, Int.reduceEq, Int.reduceToNat, UInt8.reduceToNat, F] <;> rfl) (hop : o.op = .move (.tmp s) := by rfl) (hd : o.dst = some d := by rfl) (hg : o.guard = none := by rfl) (hlt : Nat.blt d st.nt = true := by rfl) (hne : ∃ c tv, lk st.env s (c + 1) = some tv := by exact ⟨0, _, rfl⟩)
    (hst : { st with env := movT s d st.env ++ del st.env d } = st' := by simp only [go_sem, reduceIte, Nat.reduceLT, Nat.reduceLeDiff, Nat.reduceEqDiff, Nat.reduceAdd, Nat.reduceSub, Nat.reduceMul, Nat.reduceBEq, Int.reduceEq, Int.reduceToNat, UInt8.reduceToNat, F] <;> rfl) : Run P ops i (k + 1) st Q :=
  run_stp (step_movT (nth_at ho) hop hd hg hlt hne hst) h

theorem k_then {c : Operand} {x y : Code} {Q : Exit → St → Prop} (h : Tri P x st Q) (hc : st.sc true c = some (.bool true) := by simp only [go_sem, reduceIte, Nat.reduceLT, Nat.reduceLeDiff, Nat.reduceEqDiff, Nat.reduceAdd, Nat.reduceSub, Nat.reduceMul, Nat.reduceBEq, Int.reduceEq, Int.reduceToNat, UInt8.reduceToNat, F] <;> rfl) : Tri P (.cond c x y) st Q := tri_if hc (fun _ => h) (fun h => by cases h)
theorem k_else {c : Operand} {x y : Code} {Q : Exit → St → Prop} (h : Tri P y st Q) (hc : st.sc true c = some (.bool false) := by simp only [go_sem, reduceIte, Nat.reduceLT, Nat.reduceLeDiff, Nat.reduceEqDiff, Nat.reduceAdd, Nat.reduceSub, Nat.reduceMul, Nat.reduceBEq, Int.reduceEq, Int.reduceToNat, UInt8.reduceToNat, F] <;> rfl) : Tri P (.cond c x y) st Q := tri_if hc (fun h => by cases h) (fun _ => h)

theorem k_ret {res : List ResultVar} {args : List PArg} {R : List (Bool × List PV) → List (List PV) → Prop} {st1 : St} {rets : List (Bool × List PV)} {outs : List (List PV)} {Q : Exit → St → Prop}
    (hq : ∀ s, EndsIn T res args R .ret s → Q .ret s) (h : R rets outs) (h1 : outVars T st res = some (st1, rets) := by simp only [go_sem, reduceIte, Nat.reduceLT, Nat.reduceLeDiff, Nat.reduceEqDiff, Nat.reduceAdd, Nat.reduceSub, Nat.reduceMul, Nat.reduceBEq, Int.reduceEq, Int.reduceToNat, UInt8.reduceToNat, F] <;> rfl) (h2 : argOuts st1 0 args = some outs := by simp only [go_sem, reduceIte, Nat.reduceLT, Nat.reduceLeDiff, Nat.reduceEqDiff, Nat.reduceAdd, Nat.reduceSub, Nat.reduceMul, Nat.reduceBEq, Int.reduceEq, Int.reduceToNat, UInt8.reduceToNat, F] <;> rfl) : Tri P .ret st Q := tri_ret (hq _ (ends_ret h1 h2 h))

/-- An operation that is not wanted. -/
theorem k_keep {c : Code} {Q : Exit → St → Prop} (es rs : List Key) (h : Tri P c st' Q) (hst : restr st es rs = some st' := by simp only [go_sem, reduceIte, Nat.reduceLT, Nat.reduceLeDiff, Nat.reduceEqDiff, Nat.reduceAdd, Nat.reduceSub, Nat.reduceMul, Nat.reduceBEq, Int.reduceEq, Int.reduceToNat, UInt8.reduceToNat, F] <;> rfl) : Tri P c st Q := tri_into (into_r es rs hst) h

theorem i_to (es rs : List Key) (h : restr st es rs = some st' := by simp only [go_sem, reduceIte, Nat.reduceLT, Nat.reduceLeDiff, Nat.reduceEqDiff, Nat.reduceAdd, Nat.reduceSub, Nat.reduceMul, Nat.reduceBEq, Int.reduceEq, Int.reduceToNat, UInt8.reduceToNat, F] <;> rfl) : Into st st' := into_r es rs h

/-- A join at the end of a region's operations. -/
theorem r_join {τ : Type} {n : Nat} {id : Nat} {y : Code} {Q : Exit → St → Prop} (J : τ → St) (v : τ) (h1 : Run P ops 0 n st fun s => Into s (J v)) (h2 : Tri P y (J v) Q) (hk : ops.size = n := by rfl) : Tri P (.seq (.region id ops false) y) st Q :=
  k_runs n (run_mono h1 fun s hi => tri_into hi h2) hk
  where
  run_mono {i k : Nat} {Q Q' : St → Prop} (h : Run P ops i k st Q) (hq : ∀ s, Q s → Q' s) : Run P ops i k st Q' := by
    intro Z w0 E0 pins gr a w hr K hK
    exact h Z w0 E0 pins gr a w hr K fun gr' a' w' st' h1 h2 => hK gr' a' w' st' h1 (hq _ h2)
end

/-! ### a drawn region's operations -/
section
variable {P : Program} {T : Tab} {ops : Array Oper} {st st' : St} {Q : St → Prop} {C : List (List Nat)} {A : List OD}

theorem k_draw {id : Nat} {y : Code} {Q : Exit → St → Prop} (hm : P.follows .mixedOrders = true) (n : Nat) {l : Array Bool} (h : RunAny P ops n l st fun s => Tri P y s Q) (hn : ops.size = n := by rfl) (hl : setAll (Array.replicate n false) [] = l := by rfl) : Tri P (.seq (.region id ops true) y) st Q := by
  subst hn
  subst hl
  exact tri_seq (tri_draw hm h)

theorem k_draw1 {id : Nat} {Q : Exit → St → Prop} (hm : P.follows .mixedOrders = true) (n : Nat) {l : Array Bool} (h : RunAny P ops n l st (Q .normal)) (hn : ops.size = n := by rfl) (hl : setAll (Array.replicate n false) [] = l := by rfl) : Tri P (.region id ops true) st Q := by
  subst hn
  subst hl
  exact tri_draw hm h

theorem d_faddr (hT : TabOk P T) {fuel : Nat} {listed : Array Bool} {o : Oper} {x : Operand} {d s f : Nat} {tv : TV} (i : Nat) (h : RunAny P ops fuel (listed.setIfInBounds i true) st' Q) (ho : nthO ops.toList i = some o := by simp only [go_sem, reduceIte, Nat.reduceLT, Nat.reduceLeDiff, Nat.reduceEqDiff, Nat.reduceAdd, Nat.reduceSub, Nat.reduceMul, Nat.reduceBEq, Int.reduceEq, Int.reduceToNat, UInt8.reduceToNat, F] <;> rfl) (hop : o.op = .fieldAddr s x f := by rfl) (hd : o.dst = some d := by rfl) (hgd : o.guard = none := by rfl)
    (hs : Region.noSelect ops = true := by kernel_rfl) (hf : Region.free .any ops listed i = true := by kernel_rfl) (hr : (Region.ready .any ops listed).contains i = true := by kernel_rfl) (htv : evFieldAddr T st true s x f = some tv := by simp only [go_sem, reduceIte, Nat.reduceLT, Nat.reduceLeDiff, Nat.reduceEqDiff, Nat.reduceAdd, Nat.reduceSub, Nat.reduceMul, Nat.reduceBEq, Int.reduceEq, Int.reduceToNat, UInt8.reduceToNat, F] <;> rfl) (hp : st.put d tv = some st' := by simp only [go_sem, reduceIte, Nat.reduceLT, Nat.reduceLeDiff, Nat.reduceEqDiff, Nat.reduceAdd, Nat.reduceSub, Nat.reduceMul, Nat.reduceBEq, Int.reduceEq, Int.reduceToNat, UInt8.reduceToNat, F] <;> rfl) : RunAny P ops (fuel + 1) listed st Q := any_faddr hT (nth_at ho) hop hd hgd hs hf hr htv hp h

theorem d_asg {fuel : Nat} {listed : Array Bool} {o : Oper} {x : Operand} {d : Nat} {tv : TV} (i : Nat) (h : RunAny P ops fuel (listed.setIfInBounds i true) st' Q) (ho : nthO ops.toList i = some o := by simp only [go_sem, reduceIte, Nat.reduceLT, Nat.reduceLeDiff, Nat.reduceEqDiff, Nat.reduceAdd, Nat.reduceSub, Nat.reduceMul, Nat.reduceBEq, Int.reduceEq, Int.reduceToNat, UInt8.reduceToNat, F] <;> rfl) (hop : o.op = .assign x := by rfl) (hd : o.dst = some d := by rfl) (hgd : o.guard = none := by rfl)
    (hs : Region.noSelect ops = true := by kernel_rfl) (hf : Region.free .any ops listed i = true := by kernel_rfl) (hr : (Region.ready .any ops listed).contains i = true := by kernel_rfl) (htv : st.opg true x = some tv := by simp only [go_sem, reduceIte, Nat.reduceLT, Nat.reduceLeDiff, Nat.reduceEqDiff, Nat.reduceAdd, Nat.reduceSub, Nat.reduceMul, Nat.reduceBEq, Int.reduceEq, Int.reduceToNat, UInt8.reduceToNat, F] <;> rfl) (hp : st.put d tv = some st' := by simp only [go_sem, reduceIte, Nat.reduceLT, Nat.reduceLeDiff, Nat.reduceEqDiff, Nat.reduceAdd, Nat.reduceSub, Nat.reduceMul, Nat.reduceBEq, Int.reduceEq, Int.reduceToNat, UInt8.reduceToNat, F] <;> rfl) : RunAny P ops (fuel + 1) listed st Q := any_asg (nth_at ho) hop hd hgd hs hf hr htv hp h

theorem d_one (hT : TabOk P T) {fuel : Nat} {listed : Array Bool} {o : Oper} (i : Nat) (h : RunAny P ops fuel (listed.setIfInBounds i true) st' Q) (hr : Region.ready .any ops listed = [i] := by kernel_rfl) (ho : nthO ops.toList i = some o := by simp only [go_sem, reduceIte, Nat.reduceLT, Nat.reduceLeDiff, Nat.reduceEqDiff, Nat.reduceAdd, Nat.reduceSub, Nat.reduceMul, Nat.reduceBEq, Int.reduceEq, Int.reduceToNat, UInt8.reduceToNat, F] <;> rfl) (he : evOpG T st (evGuardL st ops.toList o.guard) o = some st' := by simp only [go_sem, reduceIte, Nat.reduceLT, Nat.reduceLeDiff, Nat.reduceEqDiff, Nat.reduceAdd, Nat.reduceSub, Nat.reduceMul, Nat.reduceBEq, Int.reduceEq, Int.reduceToNat, UInt8.reduceToNat, F] <;> rfl) : RunAny P ops (fuel + 1) listed st Q := any_one hT hr (nth_at ho) he h

theorem d_done {fuel : Nat} {listed : Array Bool} (h : Q st) (hr : Region.ready .any ops listed = [] := by kernel_rfl) : RunAny P ops fuel listed st Q := any_done hr h

/-- The operations that only add have been told; what is left comes behind. -/
theorem d_rule {A : List OD} {l0 l1 : Array Bool} {n0 n1 : Nat} (P0 : List Nat) (hacc : Acc P ops st C A) (hC : closL ops [] 0 ops.size = C) (htail : RunAny P ops n1 l1 st' Q) (hchk : drawChk ops ops.size C P0 st A = true := by kernel_rfl) (hl0 : setAll (Array.replicate ops.size false) P0 = l0 := by kernel_rfl) (hl1 : setAll l0 (idsOf A) = l1 := by rfl)
    (hn0 : ops.size - P0.length = n0 := by rfl) (hn1 : n0 - A.length = n1 := by rfl) (hst : xs st A = st' := by simp only [go_sem, reduceIte, Nat.reduceLT, Nat.reduceLeDiff, Nat.reduceEqDiff, Nat.reduceAdd, Nat.reduceSub, Nat.reduceMul, Nat.reduceBEq, Int.reduceEq, Int.reduceToNat, UInt8.reduceToNat, F] <;> rfl) : RunAny P ops n0 l0 st Q := by
  subst hst
  exact draw_rule P0 hC hacc hchk hl0 hl1 hn0 hn1 htail

theorem a_q (hT : TabOk P T) {d : Nat} {o : Oper} {G : Bool} {tv : TV} {s : St} {pre : List OD} (i : Nat) (idxs : List Nat) (h : Acc P ops st C A) (ho : nthO ops.toList i = some o := by simp only [go_sem, reduceIte, Nat.reduceLT, Nat.reduceLeDiff, Nat.reduceEqDiff, Nat.reduceAdd, Nat.reduceSub, Nat.reduceMul, Nat.reduceBEq, Int.reduceEq, Int.reduceToNat, UInt8.reduceToNat, F] <;> rfl) (hd : o.dst = some d := by rfl) (hpre : pickI idxs A = pre := by rfl) (hs : xs st pre = s := by simp only [go_sem, reduceIte, Nat.reduceLT, Nat.reduceLeDiff, Nat.reduceEqDiff, Nat.reduceAdd, Nat.reduceSub, Nat.reduceMul, Nat.reduceBEq, Int.reduceEq, Int.reduceToNat, UInt8.reduceToNat, F] <;> rfl)
    (hg : evGuardL s ops.toList o.guard = some G := by simp only [go_sem, reduceIte, Nat.reduceLT, Nat.reduceLeDiff, Nat.reduceEqDiff, Nat.reduceAdd, Nat.reduceSub, Nat.reduceMul, Nat.reduceBEq, Int.reduceEq, Int.reduceToNat, UInt8.reduceToNat, F] <;> rfl) (he : evQ T s G o.op = some tv := by simp only [go_sem, reduceIte, Nat.reduceLT, Nat.reduceLeDiff, Nat.reduceEqDiff, Nat.reduceAdd, Nat.reduceSub, Nat.reduceMul, Nat.reduceBEq, Int.reduceEq, Int.reduceToNat, UInt8.reduceToNat, F] <;> rfl) (h0 : noDup (keysE st.env) = true := by kernel_rfl) (hf : freshD d st = true := by kernel_rfl) (hin : allIn (getL C i) idxs = true := by kernel_rfl) :
    Acc P ops st C (⟨i, d, [((d, 0), bif isNoneG o.guard then tv else .grd G tv)], []⟩ :: A) :=
  acc_add idxs h hpre hin (gstep_q hT h0 (nth_at ho) hd hs hg he hf)

theorem a_call (hT : TabOk P T) {d : Nat} {o : Oper} {f : FuncId} {xs' : Array Operand} {ts : Array TypeId} {rs : List PassR} {args : List PArg} {rets : List (Bool × List PV)} {outs : List (List PV)} {s : St} {pre : List OD} (i : Nat) (idxs : List Nat) (ms : List Md) (h : Acc P ops st C A) (hgood : GoodD P f args rets outs)
    (ho : nthO ops.toList i = some o := by simp only [go_sem, reduceIte, Nat.reduceLT, Nat.reduceLeDiff, Nat.reduceEqDiff, Nat.reduceAdd, Nat.reduceSub, Nat.reduceMul, Nat.reduceBEq, Int.reduceEq, Int.reduceToNat, UInt8.reduceToNat, F] <;> rfl) (hop : o.op = .call ⟨.value (.func f), xs', ts⟩ := by rfl) (hd : o.dst = some d := by rfl) (hpre : pickI idxs A = pre := by rfl) (hs : xs st pre = s := by simp only [go_sem, reduceIte, Nat.reduceLT, Nat.reduceLeDiff, Nat.reduceEqDiff, Nat.reduceAdd, Nat.reduceSub, Nat.reduceMul, Nat.reduceBEq, Int.reduceEq, Int.reduceToNat, UInt8.reduceToNat, F] <;> rfl) (hg : evGuardL s ops.toList o.guard = some true := by simp only [go_sem, reduceIte, Nat.reduceLT, Nat.reduceLeDiff, Nat.reduceEqDiff, Nat.reduceAdd, Nat.reduceSub, Nat.reduceMul, Nat.reduceBEq, Int.reduceEq, Int.reduceToNat, UInt8.reduceToNat, F] <;> rfl)
    (hp : passAll T s ms xs'.toList ts.toList = some rs := by simp only [go_sem, reduceIte, Nat.reduceLT, Nat.reduceLeDiff, Nat.reduceEqDiff, Nat.reduceAdd, Nat.reduceSub, Nat.reduceMul, Nat.reduceBEq, Int.reduceEq, Int.reduceToNat, UInt8.reduceToNat, F] <;> rfl) (hok : okPass rs = true := by rfl) (hu : usesOf rs = [] := by rfl) (hl : lendsOf rs = [] := by rfl) (hargs : rs.map PassR.x = args := by simp only [go_sem, reduceIte, Nat.reduceLT, Nat.reduceLeDiff, Nat.reduceEqDiff, Nat.reduceAdd, Nat.reduceSub, Nat.reduceMul, Nat.reduceBEq, Int.reduceEq, Int.reduceToNat, UInt8.reduceToNat, F] <;> rfl)
    (hc : cleanQ (frzOf rs) rets outs.flatten = true := by simp only [go_sem, reduceIte, Nat.reduceLT, Nat.reduceLeDiff, Nat.reduceEqDiff, Nat.reduceAdd, Nat.reduceSub, Nat.reduceMul, Nat.reduceBEq, Int.reduceEq, Int.reduceToNat, UInt8.reduceToNat, F] <;> rfl) (h0 : noDup (keysE st.env) = true := by kernel_rfl) (hf : freshD d st = true := by kernel_rfl) (hin : allIn (getL C i) idxs = true := by kernel_rfl) : Acc P ops st C (⟨i, d, newEnv d (startC rets) rets, newRoots d (startC rets) rets⟩ :: A) :=
  acc_add idxs h hpre hin (gstep_call hT ms h0 (nth_at ho) hop hd hs hg hp hok hu hl hgood hargs (fun _ _ h => h) hc hf)

theorem a_build (hT : TabOk P T) {d t : Nat} {o : Oper} {parts : Array (Nat × Operand)} {e : TE} {ps : List (Nat × TE × Operand)} {rows : List (Nat × List PV)} {row : List PV} {s : St} {pre : List OD} (i : Nat) (idxs : List Nat) (h : Acc P ops st C A) (ho : nthO ops.toList i = some o := by simp only [go_sem, reduceIte, Nat.reduceLT, Nat.reduceLeDiff, Nat.reduceEqDiff, Nat.reduceAdd, Nat.reduceSub, Nat.reduceMul, Nat.reduceBEq, Int.reduceEq, Int.reduceToNat, UInt8.reduceToNat, F] <;> rfl) (hop : o.op = .build t parts := by rfl) (hd : o.dst = some d := by rfl)
    (hpre : pickI idxs A = pre := by rfl) (hs : xs st pre = s := by simp only [go_sem, reduceIte, Nat.reduceLT, Nat.reduceLeDiff, Nat.reduceEqDiff, Nat.reduceAdd, Nat.reduceSub, Nat.reduceMul, Nat.reduceBEq, Int.reduceEq, Int.reduceToNat, UInt8.reduceToNat, F] <;> rfl) (hg : evGuardL s ops.toList o.guard = some true := by simp only [go_sem, reduceIte, Nat.reduceLT, Nat.reduceLeDiff, Nat.reduceEqDiff, Nat.reduceAdd, Nat.reduceSub, Nat.reduceMul, Nat.reduceBEq, Int.reduceEq, Int.reduceToNat, UInt8.reduceToNat, F] <;> rfl) (ht : T.get t = some e := by rfl) (hps : fieldParts T t parts.toList = some ps := by simp only [go_sem, reduceIte, Nat.reduceLT, Nat.reduceLeDiff, Nat.reduceEqDiff, Nat.reduceAdd, Nat.reduceSub, Nat.reduceMul, Nat.reduceBEq, Int.reduceEq, Int.reduceToNat, UInt8.reduceToNat, F] <;> rfl) (ha : e.agg = true := by rfl) (hrows : rowsOf s ps = some rows := by simp only [go_sem, reduceIte, Nat.reduceLT, Nat.reduceLeDiff, Nat.reduceEqDiff, Nat.reduceAdd, Nat.reduceSub, Nat.reduceMul, Nat.reduceBEq, Int.reduceEq, Int.reduceToNat, UInt8.reduceToNat, F] <;> rfl) (hrow : layAll e.zero rows = some row := by simp only [go_sem, reduceIte, Nat.reduceLT, Nat.reduceLeDiff, Nat.reduceEqDiff, Nat.reduceAdd, Nat.reduceSub, Nat.reduceMul, Nat.reduceBEq, Int.reduceEq, Int.reduceToNat, UInt8.reduceToNat, F] <;> rfl) (how : hasOwn row = false := by rfl)
    (h0 : noDup (keysE st.env) = true := by kernel_rfl) (hf : freshD d st = true := by kernel_rfl) (hin : allIn (getL C i) idxs = true := by kernel_rfl) : Acc P ops st C (⟨i, d, [((d, 0), .val true row)], []⟩ :: A) :=
  acc_add idxs h hpre hin (gstep_build hT h0 (nth_at ho) hop hd hs hg ht hps ha hrows hrow how hf)

theorem a_bslice (hT : TabOk P T) {d t len : Nat} {o : Oper} {parts : Array (Nat × Operand)} {e : TE} {rows : List (Nat × List PV)} {row : List PV} {s : St} {pre : List OD} (i : Nat) (idxs : List Nat) (h : Acc P ops st C A) (ho : nthO ops.toList i = some o := by simp only [go_sem, reduceIte, Nat.reduceLT, Nat.reduceLeDiff, Nat.reduceEqDiff, Nat.reduceAdd, Nat.reduceSub, Nat.reduceMul, Nat.reduceBEq, Int.reduceEq, Int.reduceToNat, UInt8.reduceToNat, F] <;> rfl) (hop : o.op = .buildSlice t len parts := by rfl) (hd : o.dst = some d := by rfl)
    (hpre : pickI idxs A = pre := by rfl) (hs : xs st pre = s := by simp only [go_sem, reduceIte, Nat.reduceLT, Nat.reduceLeDiff, Nat.reduceEqDiff, Nat.reduceAdd, Nat.reduceSub, Nat.reduceMul, Nat.reduceBEq, Int.reduceEq, Int.reduceToNat, UInt8.reduceToNat, F] <;> rfl) (hg : evGuardL s ops.toList o.guard = some true := by simp only [go_sem, reduceIte, Nat.reduceLT, Nat.reduceLeDiff, Nat.reduceEqDiff, Nat.reduceAdd, Nat.reduceSub, Nat.reduceMul, Nat.reduceBEq, Int.reduceEq, Int.reduceToNat, UInt8.reduceToNat, F] <;> rfl) (ht : T.el t = some e := by rfl) (hlen : Nat.ble (len * e.size) 16777216 = true := by rfl) (hrows : rowsOf s (elemParts e parts.toList) = some rows := by simp only [go_sem, reduceIte, Nat.reduceLT, Nat.reduceLeDiff, Nat.reduceEqDiff, Nat.reduceAdd, Nat.reduceSub, Nat.reduceMul, Nat.reduceBEq, Int.reduceEq, Int.reduceToNat, UInt8.reduceToNat, F] <;> rfl) (hrow : layAll (List.replicate len e.zero).flatten rows = some row := by simp only [go_sem, reduceIte, Nat.reduceLT, Nat.reduceLeDiff, Nat.reduceEqDiff, Nat.reduceAdd, Nat.reduceSub, Nat.reduceMul, Nat.reduceBEq, Int.reduceEq, Int.reduceToNat, UInt8.reduceToNat, F] <;> rfl)
    (h0 : noDup (keysE st.env) = true := by kernel_rfl) (hf : freshD d st = true := by kernel_rfl) (hin : allIn (getL C i) idxs = true := by kernel_rfl) : Acc P ops st C (⟨i, d, [((d, 0), .view false (d, 0) [0] 1)], [⟨(d, 0), true, [.sl true e.size len row]⟩]⟩ :: A) :=
  acc_add idxs h hpre hin (gstep_bslice hT h0 (nth_at ho) hop hd hs hg ht hlen hrows hrow hf)

theorem a_bytes (hT : TabOk P T) {d sr ty : Nat} {x : Operand} {o : Oper} {tv : TV} {s : St} {pre : List OD} (i : Nat) (idxs : List Nat) (h : Acc P ops st C A) (ho : nthO ops.toList i = some o := by simp only [go_sem, reduceIte, Nat.reduceLT, Nat.reduceLeDiff, Nat.reduceEqDiff, Nat.reduceAdd, Nat.reduceSub, Nat.reduceMul, Nat.reduceBEq, Int.reduceEq, Int.reduceToNat, UInt8.reduceToNat, F] <;> rfl) (hop : o.op = .convert sr ty x := by rfl) (hd : o.dst = some d := by rfl)
    (hpre : pickI idxs A = pre := by rfl) (hs : xs st pre = s := by simp only [go_sem, reduceIte, Nat.reduceLT, Nat.reduceLeDiff, Nat.reduceEqDiff, Nat.reduceAdd, Nat.reduceSub, Nat.reduceMul, Nat.reduceBEq, Int.reduceEq, Int.reduceToNat, UInt8.reduceToNat, F] <;> rfl) (hg : evGuardL s ops.toList o.guard = some true := by simp only [go_sem, reduceIte, Nat.reduceLT, Nat.reduceLeDiff, Nat.reduceEqDiff, Nat.reduceAdd, Nat.reduceSub, Nat.reduceMul, Nat.reduceBEq, Int.reduceEq, Int.reduceToNat, UInt8.reduceToNat, F] <;> rfl) (hb : evBytesStr T s sr ty x = some tv := by simp only [go_sem, reduceIte, Nat.reduceLT, Nat.reduceLeDiff, Nat.reduceEqDiff, Nat.reduceAdd, Nat.reduceSub, Nat.reduceMul, Nat.reduceBEq, Int.reduceEq, Int.reduceToNat, UInt8.reduceToNat, F] <;> rfl)
    (h0 : noDup (keysE st.env) = true := by kernel_rfl) (hf : freshD d st = true := by kernel_rfl) (hin : allIn (getL C i) idxs = true := by kernel_rfl) : Acc P ops st C (⟨i, d, [((d, 0), tv)], []⟩ :: A) :=
  acc_add idxs h hpre hin (gstep_bytes hT h0 (nth_at ho) hop hd hs hg hb hf)
end
end Go.Proofs.YtddfcajdelfikaaDoor.Vm
