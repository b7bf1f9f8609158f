/- Loops and joins, as the printed proofs use them. -/
import Derived.Test.YtddfcajdelfikaaDoorVm33
set_option linter.unusedVariables false
set_option linter.unusedSimpArgs false
set_option linter.unusedSectionVars false
namespace Go.Proofs.YtddfcajdelfikaaDoor.Vm
open Go
open GV (absL extsL fzL)
open PV (frzL)

def early {τ α : Type} (k : τ → Option α) : τ ⊕ α → Option α
  | .inl v => k v
  | .inr a => some a

theorem early_l {τ α : Type} {k : τ → Option α} {o : τ ⊕ α} {v : τ} {r : α} (h : early k o = some r) (e : o = .inl v) : k v = some r := by subst e; exact h
theorem early_r {τ α : Type} {k : τ → Option α} {o : τ ⊕ α} {a r : α} (h : early k o = some r) (e : o = .inr a) : a = r := by subst e; exact Option.some.inj h

theorem and_rfl {α : Type} {a : α} {B : Prop} (h : B) : a = a ∧ B := ⟨rfl, h⟩
section
variable {P : Program} {T : Tab} {st : St} {Q : Exit → St → Prop}

def ExQ {τ : Type} (id : Nat) (J : τ → St) (v : τ) : Exit → St → Prop := fun e s => e = .exit id ∧ Into s (J v)
def AnQ {α : Type} (R : α) (Q : Exit → St → Prop) (a : α) : Exit → St → Prop := fun e s => e ≠ .normal ∧ (a = R → Q e s)
def ExA {τ α : Type} (id : Nat) (J : τ → St) (R : α) (Q : Exit → St → Prop) : τ ⊕ α → Exit → St → Prop
  | .inl v => fun e s => e = .exit id ∧ Into s (J v)
  | .inr a => AnQ R Q a
def JnE {τ α : Type} (J : τ → St) (R : α) (Q : Exit → St → Prop) : τ ⊕ α → Exit → St → Prop
  | .inl v => fun e s => e = .normal ∧ Into s (J v)
  | .inr a => AnQ R Q a

theorem q_ret {α : Type} {R a : α} (h : a = R → Q .ret st) : AnQ R Q a .ret st := ⟨nofun, h⟩
theorem q_exit {α : Type} {R a : α} {id : Nat} (h : a = R → Q (.exit id) st) : AnQ R Q a (.exit id) st := ⟨nofun, h⟩

theorem k_loopG {c : Code} {σ ρ : Type} (I : σ → St) (E : ρ → Exit → St → Prop) {step : σ → Option (σ ⊕ ρ)} {s0 : σ} {o : ρ} (h : loopC step s0 = some o) (h0 : Into st (I s0))
    (round : ∀ s o, step s = some o → Tri P c (I s) (LoopQ I E o)) (hE : ∀ e s, E o e s → e ≠ .normal ∧ ∃ s', Into s s' ∧ Q e s') : Tri P (.loop c) st Q := by
  have h1 : Tri P (.loop c) st (fun e s => ∃ s', Into s s' ∧ Q e s') := k_loop I E h h0 round hE
  intro Z w0 E0 pins gr a w hr
  refine wp_mono (h1 Z w0 E0 pins gr a w hr) ?_
  rintro e a' w' ⟨gr', s, q1, s', q2, q3⟩
  obtain ⟨gr2, q4⟩ := q2 Z w0 E0 pins gr' a' w' q1
  exact ⟨gr2, s', q4, q3⟩

theorem k_loopX {c : Code} {σ τ : Type} (I : σ → St) (id : Nat) (J : τ → St) {step : σ → Option (σ ⊕ τ)} {s0 : σ} {v : τ} (h : loopC step s0 = some v) (h0 : Into st (I s0))
    (round : ∀ s o, step s = some o → Tri P c (I s) (LoopQ I (ExQ id J) o)) (hJ : Q (.exit id) (J v)) : Tri P (.loop c) st Q :=
  k_loopG I (ExQ id J) h h0 round fun e s ⟨h1, h2⟩ => ⟨by rw [h1]; exact nofun, J v, h2, by rw [h1]; exact hJ⟩

theorem k_loopE {c : Code} {σ τ α : Type} (I : σ → St) (id : Nat) (J : τ → St) (R : α) {step : σ → Option (σ ⊕ (τ ⊕ α))} {s0 : σ} {o : τ ⊕ α} (h : loopC step s0 = some o) (h0 : Into st (I s0))
    (round : ∀ s o, step s = some o → Tri P c (I s) (LoopQ I (ExA id J R Q) o)) (hA : ∀ a, o = .inr a → a = R) (hJ : ∀ v, o = .inl v → Q (.exit id) (J v)) : Tri P (.loop c) st Q := by
  refine k_loopG I (ExA id J R Q) h h0 round ?_
  intro e s hE
  cases o with
  | inl v => obtain ⟨h1, h2⟩ := hE; exact ⟨by rw [h1]; exact nofun, J v, h2, by rw [h1]; exact hJ v rfl⟩
  | inr a => obtain ⟨h1, h2⟩ := hE; exact ⟨h1, s, Into.refl s, h2 (hA a rfl)⟩

theorem k_loopA {c : Code} {σ α : Type} (I : σ → St) (R : α) {step : σ → Option (σ ⊕ α)} {s0 : σ} (h : loopC step s0 = some R) (h0 : Into st (I s0))
    (round : ∀ s o, step s = some o → Tri P c (I s) (LoopQ I (AnQ R Q) o)) : Tri P (.loop c) st Q :=
  k_loopG I (AnQ R Q) h h0 round fun e s ⟨h1, h2⟩ => ⟨h1, s, Into.refl s, h2 rfl⟩

def JnQ {τ : Type} (J : τ → St) (v : τ) : Exit → St → Prop := fun e s => e = .normal ∧ Into s (J v)

theorem k_jn {x z : Code} {τ : Type} (J : τ → St) (v : τ) (h1 : Tri P x st (JnQ J v)) (h2 : Tri P z (J v) Q) : Tri P (.seq x z) st Q := k_join J v h1 h2

theorem k_jnE {x z : Code} {τ α : Type} (J : τ → St) (R : α) (o : τ ⊕ α) (h1 : Tri P x st (JnE J R Q o)) (h3 : ∀ a, o = .inr a → a = R) (h2 : ∀ v, o = .inl v → Tri P z (J v) Q) : Tri P (.seq x z) st Q := by
  cases o with
  | inl v => exact k_join J v h1 (h2 v rfl)
  | inr a =>
    refine tri_seq (tri_mono h1 ?_)
    rintro e s ⟨hn, hq⟩
    have := hq (h3 a rfl)
    cases e with
    | normal => exact absurd rfl hn
    | exit id => exact this
    | goto l => exact this
    | ret => exact this
    | panic ch => exact this
    | outgrown => exact this

theorem k_retE {res : List ResultVar} {args : List PArg} {rets0 rets : List (Bool × List PV)} {outs0 outs : List (List PV)} {st1 : St} (h1 : outVars T st res = some (st1, rets) := by simp only [go_sem, reduceIte, Nat.reduceLT, Nat.reduceLeDiff, Nat.reduceEqDiff, Nat.reduceAdd, Nat.reduceSub, Nat.reduceMul, Nat.reduceBEq, Int.reduceEq, Int.reduceToNat, UInt8.reduceToNat, F] <;> rfl)
    (h2 : argOuts st1 0 args = some outs := by simp only [go_sem, reduceIte, Nat.reduceLT, Nat.reduceLeDiff, Nat.reduceEqDiff, Nat.reduceAdd, Nat.reduceSub, Nat.reduceMul, Nat.reduceBEq, Int.reduceEq, Int.reduceToNat, UInt8.reduceToNat, F] <;> rfl) (e1 : rets = rets0 := by first | rfl | (simp only [go_sem, reduceIte, Nat.reduceLT, Nat.reduceLeDiff, Nat.reduceEqDiff, Nat.reduceAdd, Nat.reduceSub, Nat.reduceMul, Nat.reduceBEq, Int.reduceEq, Int.reduceToNat, UInt8.reduceToNat, F] <;> rfl)) (e2 : outs = outs0 := by first | rfl | (simp only [go_sem, reduceIte, Nat.reduceLT, Nat.reduceLeDiff, Nat.reduceEqDiff, Nat.reduceAdd, Nat.reduceSub, Nat.reduceMul, Nat.reduceBEq, Int.reduceEq, Int.reduceToNat, UInt8.reduceToNat, F] <;> rfl)) : EndsIn T res args (fun r o => r = rets0 ∧ o = outs0) .ret st :=
  ends_ret h1 h2 ⟨e1, e2⟩

theorem k_endD {res : List ResultVar} {args : List PArg} {rets0 rets : List (Bool × List PV)} {outs0 outs : List (List PV)} {st1 : St}
    (h1 : outVars T st res = some (st1, rets) := by simp only [go_sem, reduceIte, Nat.reduceLT, Nat.reduceLeDiff, Nat.reduceEqDiff, Nat.reduceAdd, Nat.reduceSub, Nat.reduceMul, Nat.reduceBEq, Int.reduceEq, Int.reduceToNat, UInt8.reduceToNat, F] <;> rfl)
    (h2 : argOuts st1 0 args = some outs := by simp only [go_sem, reduceIte, Nat.reduceLT, Nat.reduceLeDiff, Nat.reduceEqDiff, Nat.reduceAdd, Nat.reduceSub, Nat.reduceMul, Nat.reduceBEq, Int.reduceEq, Int.reduceToNat, UInt8.reduceToNat, F] <;> rfl)
    (e1 : rets = rets0 := by first | rfl | (simp only [go_sem, reduceIte, Nat.reduceLT, Nat.reduceLeDiff, Nat.reduceEqDiff, Nat.reduceAdd, Nat.reduceSub, Nat.reduceMul, Nat.reduceBEq, Int.reduceEq, Int.reduceToNat, UInt8.reduceToNat, F] <;> rfl)) (e2 : outs = outs0 := by first | rfl | (simp only [go_sem, reduceIte, Nat.reduceLT, Nat.reduceLeDiff, Nat.reduceEqDiff, Nat.reduceAdd, Nat.reduceSub, Nat.reduceMul, Nat.reduceBEq, Int.reduceEq, Int.reduceToNat, UInt8.reduceToNat, F] <;> rfl)) : EndsIn T res args (fun r o => r = rets0 ∧ o = outs0) .normal st :=
  ends_normal h1 h2 ⟨e1, e2⟩
end

/-! ### a condition that holds is forgotten -/

def TV.strip : TV → TV
  | .grd true tv => tv
  | tv => tv

def stripT (ts : List Nat) : List (Key × TV) → List (Key × TV)
  | [] => []
  | e :: r => (e.1, bif hasI ts e.1.1 then e.2.strip else e.2) :: stripT ts r

theorem mem_stripT {ts : List Nat} : ∀ {env : List (Key × TV)} {e : Key × TV}, e ∈ stripT ts env → ∃ tv, (e.1, tv) ∈ env ∧ (e.2 = tv ∨ e.2 = tv.strip)
  | [], e, h => by cases h
  | x :: r, e, h => by
    simp only [stripT] at h
    rcases List.mem_cons.1 h with rfl | h
    · refine ⟨x.2, List.mem_cons_self, ?_⟩
      cases hasI ts x.1.1 with
      | true => exact .inr rfl
      | false => exact .inl rfl
    · obtain ⟨tv, h1, h2⟩ := mem_stripT h
      exact ⟨tv, List.mem_cons_of_mem _ h1, h2⟩

theorem into_strip (st : St) (ts : List Nat) : Into st { st with env := stripT ts st.env } := by
  intro Z w0 E0 pins gr a w h
  refine ⟨gr, { h with env := fun e he => ?_ }⟩
  obtain ⟨tv, h1, h2⟩ := mem_stripT he
  have h3 := h.env _ h1
  have hs : ∀ v, TVOk Z w gr v tv → TVOk Z w gr v tv.strip := by
    intro v hv
    cases tv with
    | grd g t => cases g with
      | true => exact hv.1 rfl
      | false => exact hv
    | _ => exact hv
  obtain ⟨⟨t, c⟩, tv'⟩ := e
  simp only at h1 h2
  cases c with
  | zero =>
    refine ⟨h3.1, ?_⟩
    rcases h2 with h2 | h2
    · rw [h2]; exact h3.2
    · rw [h2]; exact hs _ h3.2
  | succ c =>
    obtain ⟨q1, vs, v, q2, q3, q4⟩ := h3
    refine ⟨q1, vs, v, q2, q3, ?_⟩
    rcases h2 with h2 | h2
    · rw [h2]; exact q4
    · rw [h2]; exact hs _ q4

attribute [go_sem] TV.strip stripT

theorem r_into {P : Program} {ops : Array Oper} {i k : Nat} {st st' : St} {Q : St → Prop} (hi : Into st st') (h : Run P ops i k st' Q) : Run P ops i k st Q := by
  intro Z w0 E0 pins gr a w hr K hK
  obtain ⟨gr', hr'⟩ := hi Z w0 E0 pins gr a w hr
  exact h Z w0 E0 pins gr' a w hr' K hK

theorem r_strip {P : Program} {ops : Array Oper} {i k : Nat} {st st' : St} {Q : St → Prop} (ts : List Nat) (h : Run P ops i k st' Q) (hst : { st with env := stripT ts st.env } = st' := by simp only [go_sem, reduceIte, Nat.reduceLT, Nat.reduceLeDiff, Nat.reduceEqDiff, Nat.reduceAdd, Nat.reduceSub, Nat.reduceMul, Nat.reduceBEq, Int.reduceEq, Int.reduceToNat, UInt8.reduceToNat, F] <;> rfl) : Run P ops i k st Q := by
  subst hst
  exact r_into (into_strip st ts) h

/-! ### more on drawn regions -/

section
variable {P : Program} {T : Tab} {ops : Array Oper} {st0 st st' s : St} {Q : St → Prop} {C : List (List Nat)} {A : List OD}

/-- An assignment of a plain value. -/
theorem gstep_asg (hT : TabOk P T) {i d : Nat} {x : Operand} {o : Oper} {agg : Bool} {row : List PV} {pre : List OD} (h0 : noDup (keysE st0.env) = true) (ho : ops[i]? = some o) (hop : o.op = .assign x) (hd : o.dst = some d)
    (hs : xs st0 pre = s) (hg : evGuardL s ops.toList o.guard = some true) (hb : s.opv x = some (.val agg row)) (hf : freshD d st0 = true) : GStep P ops st0 pre ⟨i, d, [((d, 0), .val agg row)], []⟩ := by
  intro X hp hX Z w0 E0 pins gr a w hr K Q' hK
  subst hs
  have hle := xs_le h0 hp hX.all hX.nd hr
  have hfx := xs_fresh (x := ⟨i, d, [((d, 0), .val agg row)], []⟩) hf hX
  rw [evGuardL_eq] at hg
  refine evOp_ok hT hr ho (st' := xs st0 (⟨i, d, [((d, 0), .val agg row)], []⟩ :: X)) ?_ hK
  unfold evOp
  rw [hle.guard hg]
  have hq : evQ T (xs st0 X) true o.op = none := by rw [hop]; rfl
  simp only [hd, hq]
  have hm : evM T (xs st0 X) d o.type o.op = some (xs st0 X, .val agg row) := by
    rw [hop]; simp only [evM, evAssign, hle.opv hb]
  simp only [hm, xs, List.cons_append, List.nil_append]
  exact fresh_put (rs := (xs st0 X).roots) hfx _

theorem a_asg (hT : TabOk P T) {d : Nat} {x : Operand} {o : Oper} {agg : Bool} {row : List PV} {s : St} {pre : List OD} (i : Nat) (idxs : List Nat) (h : Acc P ops st C A) (ho : nthO ops.toList i = some o := by simp only [go_sem, reduceIte, Nat.reduceLT, Nat.reduceLeDiff, Nat.reduceEqDiff, Nat.reduceAdd, Nat.reduceSub, Nat.reduceMul, Nat.reduceBEq, Int.reduceEq, Int.reduceToNat, UInt8.reduceToNat, F] <;> rfl) (hop : o.op = .assign x := by rfl) (hd : o.dst = some d := by rfl)
    (hpre : pickI idxs A = pre := by rfl) (hs : xs st pre = s := by simp only [go_sem, reduceIte, Nat.reduceLT, Nat.reduceLeDiff, Nat.reduceEqDiff, Nat.reduceAdd, Nat.reduceSub, Nat.reduceMul, Nat.reduceBEq, Int.reduceEq, Int.reduceToNat, UInt8.reduceToNat, F] <;> rfl) (hg : evGuardL s ops.toList o.guard = some true := by simp only [go_sem, reduceIte, Nat.reduceLT, Nat.reduceLeDiff, Nat.reduceEqDiff, Nat.reduceAdd, Nat.reduceSub, Nat.reduceMul, Nat.reduceBEq, Int.reduceEq, Int.reduceToNat, UInt8.reduceToNat, F] <;> rfl) (hb : s.opv x = some (.val agg row) := by simp only [go_sem, reduceIte, Nat.reduceLT, Nat.reduceLeDiff, Nat.reduceEqDiff, Nat.reduceAdd, Nat.reduceSub, Nat.reduceMul, Nat.reduceBEq, Int.reduceEq, Int.reduceToNat, UInt8.reduceToNat, F] <;> rfl)
    (h0 : noDup (keysE st.env) = true := by kernel_rfl) (hf : freshD d st = true := by kernel_rfl) (hin : allIn (getL C i) idxs = true := by kernel_rfl) : Acc P ops st C (⟨i, d, [((d, 0), .val agg row)], []⟩ :: A) :=
  acc_add idxs h hpre hin (gstep_asg hT h0 (nth_at ho) hop hd hs hg hb hf)

theorem d_begin {n : Nat} {l : Array Bool} (C : List (List Nat)) (h : Acc P ops st C [] → RunAny P ops n l st Q) : RunAny P ops n l st Q := h acc_nil

theorem d_tail {l0 l1 : Array Bool} {n0 n1 : Nat} (P0 : List Nat) (hacc : Acc P ops st C A) (htail : RunAny P ops n1 l1 st' Q) (hC : closL ops [] 0 ops.size = C := by kernel_rfl) (hchk : drawChk ops ops.size C P0 st A = true := by kernel_rfl) (hl0 : setAll (Array.replicate ops.size false) P0 = l0 := by kernel_rfl) (hl1 : setAll l0 (idsOf A) = l1 := by rfl)
    (hn0 : ops.size - P0.length = n0 := by rfl) (hn1 : n0 - A.length = n1 := by rfl) (hst : xs st A = st' := by simp only [go_sem, reduceIte, Nat.reduceLT, Nat.reduceLeDiff, Nat.reduceEqDiff, Nat.reduceAdd, Nat.reduceSub, Nat.reduceMul, Nat.reduceBEq, Int.reduceEq, Int.reduceToNat, UInt8.reduceToNat, F] <;> rfl) : RunAny P ops n0 l0 st Q := by
  subst hst
  exact draw_rule P0 hC hacc hchk hl0 hl1 hn0 hn1 htail

theorem d_call (hT : TabOk P T) {fuel : Nat} {listed : Array Bool} {o : Oper} {d : Nat} {fop : Operand} {xs : Array Operand} {ts : Array TypeId} {f : FuncId} {crs rs : List PassR} {rets : List (Bool × List PV)} {outs : List (List PV)} (i : Nat) (ms : List Md) {args : List PArg} (hgood : GoodD P f args rets outs)
    (h : RunAny P ops fuel (listed.setIfInBounds i true) st' Q)
    (hr : Region.ready .any ops listed = [i] := by kernel_rfl) (ho : nthO ops.toList i = some o := by simp only [go_sem, reduceIte, Nat.reduceLT, Nat.reduceLeDiff, Nat.reduceEqDiff, Nat.reduceAdd, Nat.reduceSub, Nat.reduceMul, Nat.reduceBEq, Int.reduceEq, Int.reduceToNat, UInt8.reduceToNat, F] <;> rfl) (hop : o.op = .call ⟨.value fop, xs, ts⟩ := by rfl) (hd : o.dst = some d := by rfl) (hg : evGuardL st ops.toList o.guard = some true := by simp only [go_sem, reduceIte, Nat.reduceLT, Nat.reduceLeDiff, Nat.reduceEqDiff, Nat.reduceAdd, Nat.reduceSub, Nat.reduceMul, Nat.reduceBEq, Int.reduceEq, Int.reduceToNat, UInt8.reduceToNat, F] <;> rfl) (hcal : calleeOf st fop = some (f, crs) := by simp only [go_sem, reduceIte, Nat.reduceLT, Nat.reduceLeDiff, Nat.reduceEqDiff, Nat.reduceAdd, Nat.reduceSub, Nat.reduceMul, Nat.reduceBEq, Int.reduceEq, Int.reduceToNat, UInt8.reduceToNat, F] <;> rfl)
    (hp : passAll T st ms xs.toList ts.toList = some rs := by simp only [go_sem, reduceIte, Nat.reduceLT, Nat.reduceLeDiff, Nat.reduceEqDiff, Nat.reduceAdd, Nat.reduceSub, Nat.reduceMul, Nat.reduceBEq, Int.reduceEq, Int.reduceToNat, UInt8.reduceToNat, F] <;> rfl) (hok : okPass (rs ++ crs) = true := by rfl) (hargs : (rs ++ crs).map PassR.x = args := by simp only [go_sem, reduceIte, Nat.reduceLT, Nat.reduceLeDiff, Nat.reduceEqDiff, Nat.reduceAdd, Nat.reduceSub, Nat.reduceMul, Nat.reduceBEq, Int.reduceEq, Int.reduceToNat, UInt8.reduceToNat, F] <;> rfl) (hb : back st (rs ++ crs) d rets outs = some st' := by simp only [go_sem, reduceIte, Nat.reduceLT, Nat.reduceLeDiff, Nat.reduceEqDiff, Nat.reduceAdd, Nat.reduceSub, Nat.reduceMul, Nat.reduceBEq, Int.reduceEq, Int.reduceToNat, UInt8.reduceToNat, F] <;> rfl) : RunAny P ops (fuel + 1) listed st Q :=
  any_call hT hr ms (nth_at ho) hop hd hg hcal hp hok hgood hargs fun r o ⟨h1, h2⟩ => by subst h1; subst h2; exact ⟨st', hb, h⟩
end

/-- Temporaries are forgotten. -/
def delAll (env : List (Key × TV)) : List Nat → List (Key × TV)
  | [] => env
  | d :: ds => delAll (del env d) ds

theorem mem_delAll : ∀ {ds : List Nat} {env : List (Key × TV)} {e : Key × TV}, e ∈ delAll env ds → e ∈ env
  | [], _, _, h => h
  | d :: ds, env, e, h => (mem_del.1 (mem_delAll (ds := ds) h)).1

attribute [go_sem] delAll

theorem k_del {P : Program} {c : Code} {st st' : St} {Q : Exit → St → Prop} (ds : List Nat) (h : Tri P c st' Q) (hst : { st with env := delAll st.env ds } = st' := by simp only [go_sem, reduceIte, Nat.reduceLT, Nat.reduceLeDiff, Nat.reduceEqDiff, Nat.reduceAdd, Nat.reduceSub, Nat.reduceMul, Nat.reduceBEq, Int.reduceEq, Int.reduceToNat, UInt8.reduceToNat, F] <;> rfl) : Tri P c st Q := by
  subst hst
  exact fun Z w0 E0 pins gr a w hr => h Z w0 E0 pins gr a w (hr.weaken fun e he => mem_delAll he)

/-! ### operations that are not wanted -/

def evSk (all : List Oper) : List Oper → St → Option St
  | [], st => some st
  | o :: r, st => match evGuardL st all o.guard with
    | some false => match o.dst with
      | some d => match st.put d (.grd false (.val false [.bool false])) with
        | some st1 => evSk all r st1
        | none => none
      | none => evSk all r st
    | _ => none

attribute [go_sem] evSk

theorem stp_skip {P : Program} {ops : Array Oper} {i : Nat} {o : Oper} {st : St} (ho : ops[i]? = some o) (hg : evGuardL st ops.toList o.guard = some false) {st' : St}
    (hp : (match o.dst with | some d => st.put d (.grd false (.val false [.bool false])) | none => some st) = some st') : Stp P ops i st st' := by
  intro Z w0 E0 pins gr a w hr K Q' hK
  rw [evGuardL_eq] at hg
  have hw := evGuard_ok hr hg
  unfold wpOp
  rw [ho]
  simp only [hw, Bool.false_eq_true, if_false]
  cases hd : o.dst with
  | none =>
    rw [hd] at hp
    cases hp
    exact hK gr a w hr
  | some d =>
    rw [hd] at hp
    have ht : TVOk Z w gr undef (.grd false (.val false [.bool false])) := ⟨fun h => (by cases h), fun _ => rfl⟩
    exact hK gr _ w (hr.gput ht hp)

theorem run_sk {P : Program} {ops : Array Oper} {k : Nat} {Q : St → Prop} : ∀ (n i : Nat) {st st' : St}, Nat.ble (i + n) ops.size = true → evSk ops.toList ((ops.toList.drop i).take n) st = some st' → Run P ops (i + n) k st' Q → Run P ops i (n + k) st Q
  | 0, i, st, st', _, he, h => by
    simp only [List.take_zero, evSk] at he
    cases he
    simpa using h
  | n + 1, i, st, st', hn, he, h => by
    have hle := Nat.le_of_ble_eq_true hn
    have hi : i < ops.toList.length := by simp; omega
    rw [List.drop_eq_getElem_cons hi] at he
    have ho : ops[i]? = some ops.toList[i] := by
      rw [← Array.getElem?_toList, List.getElem?_eq_getElem hi]
    simp only [List.take_succ_cons, evSk] at he
    split at he
    · rename_i hg
      have e : n + 1 + k = (n + k) + 1 := by omega
      rw [e]
      have h' : Run P ops (i + 1 + n) k st' Q := by rw [show i + 1 + n = i + (n + 1) by omega]; exact h
      split at he
      · rename_i d hd
        split at he
        · rename_i st1 hp
          refine run_stp (stp_skip ho hg (by rw [hd]; exact hp)) (run_sk n (i + 1) (by rw [show i + 1 + n = i + (n + 1) by omega]; exact hn) he h')
        · cases he
      · rename_i hd
        refine run_stp (stp_skip ho hg (by rw [hd])) (run_sk n (i + 1) (by rw [show i + 1 + n = i + (n + 1) by omega]; exact hn) he h')
    · cases he

theorem r_skip {P : Program} {ops : Array Oper} {i : Nat} {st st' : St} {Q : St → Prop} (n k : Nat) {l : List Oper} (h : Run P ops (i + n) k st' Q) (hl : (ops.toList.drop i).take n = l := by rfl) (hn : Nat.ble (i + n) ops.size = true := by rfl) (he : evSk ops.toList l st = some st' := by simp only [go_sem, reduceIte, Nat.reduceLT, Nat.reduceLeDiff, Nat.reduceEqDiff, Nat.reduceAdd, Nat.reduceSub, Nat.reduceMul, Nat.reduceBEq, Int.reduceEq, Int.reduceToNat, UInt8.reduceToNat, F] <;> rfl) : Run P ops i (n + k) st Q := by
  subst hl
  exact run_sk n i hn he h

/-! ### a slice is cut down to its head -/

/-- The window at the head of a slice in flight becomes the slice. -/
def St.trunc (st : St) (t : Nat) : Option St :=
  match lk st.env t 0 with
  | some (.win r [0] 0 n) => match rlk st.roots r with
    | some ⟨k, true, [.sl true sz m cells]⟩ => bif hasKey st.pk r then none else some { (st.drop r) with env := ((t, 0), .view false r [0] 1) :: del (st.drop r).env t, roots := ⟨r, true, [.sl true sz n (cells.take (n * sz))]⟩ :: (st.drop r).roots }
    | _ => none
  | _ => none

theorem into_trunc {st st' : St} (t : Nat) (h : st.trunc t = some st') : Into st st' := by
  unfold St.trunc at h
  split at h
  · rename_i r n hl
    split at h
    · rename_i k sz m cells hR
      cases hpk : hasKey st.pk r with
      | true => rw [hpk] at h; cases h
      | false =>
        rw [hpk] at h
        simp only [cond_false] at h
        cases h
        intro Z w0 E0 pins gr a w hr
        obtain ⟨ht, R1, hR1, hk1, sz1, m1, cap, a1, gc, A, c, hg, q1, q2, q3, q4, q5, q6⟩ := hr.env _ (lk_mem hl)
        obtain ⟨R2, hR2, hk2, hroot⟩ := hr.root hR
        obtain rfl := hr.uniq hR2 hR1 (hk2.trans hk1.symm)
        have hkey : R2.key = k := congrArg Root.key hroot.symm
        have hloc : R2.loc = none := by
          have := congrArg Root.virt hroot.symm
          simp only [GR.root] at this
          cases hl' : R2.loc with
          | none => rfl
          | some x => rw [hl'] at this; cases this
        have hrow : absL R2.row = [.sl true sz m cells] := congrArg Root.row hroot.symm
        -- the row is one cell
        have hlen : R2.row.length = 1 := by rw [← absL_length, hrow]; rfl
        have hrow1 : R2.row = [.sl true sz1 m1 cap a1 gc] := by
          simp only [getG, hlen] at hg
          simp only [Nat.zero_add, Nat.le_refl, if_true, List.drop_zero, Option.some.injEq] at hg
          rw [List.take_of_length_le (by omega)] at hg
          exact hg
        rw [hrow1] at hrow
        simp only [GV.absL, GV.abs, List.cons.injEq, PV.sl.injEq, and_true] at hrow
        obtain ⟨_, rfl, rfl, rfl⟩ := hrow
        have hsat := hr.sat R2 hR2
        rw [hrow1] at hsat
        simp only [SatL, and_true] at hsat
        have hsat0 := hsat
        simp only [Sat] at hsat
        obtain ⟨s1, s2, s3, s4, s5, s6, s7⟩ := hsat
        have hrk : R2.key = r := hk1
        -- the new ghost
        let g' : GV := .sl true sz1 n c A (gc.take (n * sz1))
        let R' : GR := ⟨r, none, [g']⟩
        have hperm := gdel_perm_of hr.keys hR2
        have hexts : ∀ b o, inE (extsL [g']) b o → inE R2.exts b o := by
          intro b o he
          refine GR.inE_exts.2 (.inr ?_)
          rw [hrow1]
          simp only [GV.extsL, List.append_nil] at he ⊢
          simp only [g', GV.exts] at he ⊢
          rcases inE_append.1 he with he | he
          · refine inE_append.2 (.inl ?_)
            cases A with
            | none => simp only [ownExt] at he; exact absurd he not_inE_nil
            | some x =>
              obtain ⟨b1, o1⟩ := x
              obtain ⟨o2, e1, _⟩ := q6 b1 o1 rfl
              rw [e1]
              exact he
          · refine inE_append.2 (.inr ?_)
            obtain ⟨g, hg1, hg2⟩ := inE_extsL.1 he
            exact inE_extsL.2 ⟨g, List.mem_of_mem_take hg1, hg2⟩
        have hown : (ownExt true A).Sublist (ownExt true a1) := by
          cases A with
          | none => simp [ownExt]
          | some x =>
            obtain ⟨b1, o1⟩ := x
            obtain ⟨o2, e1, _⟩ := q6 b1 o1 rfl
            rw [e1]
            exact List.Sublist.refl _
        have hsub : (extsL (gc.take (n * sz1))).Sublist (extsL gc) := by
          conv => rhs; rw [← List.take_append_drop (n * sz1) gc, extsL_append]
          exact List.sublist_append_left _ _
        have hall := Apart.append.1 (hr.apart.perm hperm)
        have hRx : R2.exts = R2.base ++ (ownExt true a1 ++ extsL gc ++ []) := by
          unfold GR.exts; rw [hrow1]; rfl
        have hR'x : R'.exts = ownExt true A ++ extsL (gc.take (n * sz1)) := by
          show [] ++ (ownExt true A ++ extsL (gc.take (n * sz1)) ++ []) = _
          simp
        have hin' : ∀ b o, inE R'.exts b o → inE R2.exts b o := by
          intro b o he
          refine hexts b o ?_
          rw [hR'x] at he
          show inE (ownExt true A ++ extsL (gc.take (n * sz1)) ++ []) b o
          rw [List.append_nil]
          exact he
        have hgr : extsR (R' :: gdel gr R2.key) = R'.exts ++ extsR (gdel gr R2.key) := rfl
        have hI : ∀ b o, inE (extsR (R' :: gdel gr R2.key)) b o → inE (extsR gr) b o := by
          intro b o he
          rw [hgr] at he
          refine (inE_perm hperm).2 ?_
          rcases inE_append.1 he with he | he
          · exact inE_append.2 (.inl (hin' b o he))
          · exact inE_append.2 (.inr he)
        have hOW : ∀ b o, OW Z (R' :: gdel gr R2.key) b o → OW Z gr b o := fun b o h => h.imp (hI b o) id
        have hkk := gdel_keys hr.keys (k := R2.key)
        have hnew : SatL w (OW Z (R' :: gdel gr R2.key)) [g'] := by
          simp only [SatL, and_true, g', Sat]
          refine ⟨?_, q2, q4, ?_, ?_, fun h => (by cases h), ?_⟩
          · rw [List.length_take, s1, Nat.min_eq_left]
            exact Nat.mul_le_mul_right _ (by omega)
          · intro b o hA i g hg'
            rw [List.getElem?_take] at hg'
            split at hg'
            · rename_i hi
              have hn : 0 < n := by
                rcases Nat.eq_zero_or_pos n with e | e
                · subst e; simp at hi
                · exact e
              obtain ⟨b1, o1, e1, e2⟩ := q5 hn
              rw [e2] at hA
              simp only [Nat.zero_mul, Nat.add_zero, Option.some.injEq, Prod.mk.injEq] at hA
              obtain ⟨rfl, rfl⟩ := hA
              exact s4 b1 o1 e1 i g hg'
            · cases hg'
          · intro b o hA
            refine ⟨fun _ => ?_, fun h => (by cases h)⟩
            obtain ⟨o2, e1, e2⟩ := q6 b o hA
            exact ((s5 b o2 e1).1 trivial).le e2
          · exact SatL_iff.2 fun g hg => SatL_iff.1 (SatL.less (O' := OW Z (R' :: gdel gr R2.key)) s7 fun b o h _ => hOW b o h) g (List.mem_of_mem_take hg)
        have hrel := hr.renew (gr' := R' :: gdel gr R2.key) (X := fun _ _ => False) (Evo.refl w _) (fun _ _ h => h.elim) (by
            rw [hgr]
            refine Apart.append.2 ⟨?_, hall.2.1, fun b o h1 h2 => hall.2.2 b o (hin' b o h1) h2⟩
            have h1 := hall.1
            rw [hRx] at h1
            have h2 := (Apart.append.1 h1).2.1
            rw [List.append_nil] at h2
            rw [hR'x]
            exact List.Pairwise.sublist (hown.append hsub) h2)
          (fun b o h _ => hI b o h) (by
            rw [List.map_cons, List.nodup_cons]
            rw [show R'.key = R2.key from hrk.symm]
            exact ⟨hkk.2, hkk.1⟩)
          (fun R hR => by
            rcases List.mem_cons.1 hR with rfl | hR
            · exact .inr ⟨hnew, (fun b o h => by cases h), (fun b o h => by cases h)⟩
            · exact .inl ⟨(mem_gdel.1 hR).1, fun _ _ _ h => h⟩)
          (fun p hp R hR hk => by
            rcases List.mem_cons.1 hR with rfl | hR
            · have h1 := hr.pk p hp
              rw [← hk] at h1
              rw [hasKey_iff.2 h1] at hpk
              cases hpk
            · exact hr.pin p hp R (mem_gdel.1 hR).1 hk)
          (env' := del (keepE (fun tv => !tv.on r) st.env) t) (fun e he => by
            obtain ⟨h1, h2⟩ := mem_del.1 he
            obtain ⟨h3, h4⟩ := mem_keepE.1 h1
            refine ⟨h3, TV.not_on (k := r) (fun R hR hne => List.mem_cons_of_mem _ (mem_gdel.2 ⟨hR, by rw [hrk]; exact hne⟩)) (by simpa using h4)⟩)
        refine ⟨R' :: gdel gr R2.key, ?_⟩
        have hroots : (R' :: gdel gr R2.key).map GR.root = ⟨r, true, [.sl true sz1 n ((absL gc).take (n * sz1))]⟩ :: delR st.roots r := by
          rw [hr.roots, List.map_cons, ← hrk, delR_root]
          congr 1
          show Root.mk _ _ _ = _
          simp only [R', g', GR.root, GV.absL, GV.abs, absL_take, Option.isNone_none, hrk]
        have h3 : Rel Z w0 E0 pins (R' :: gdel gr R2.key) a w { st with env := del (keepE (fun tv => !tv.on r) st.env) t, roots := ⟨r, true, [.sl true sz1 n ((absL gc).take (n * sz1))]⟩ :: delR st.roots r } := by
          rw [← hroots]; exact hrel
        refine { h3 with env := fun e he => ?_ }
        rcases List.mem_cons.1 he with rfl | he
        · refine ⟨ht, R', List.mem_cons_self, rfl, [g'], ?_, g', rfl, q3⟩
          simp [getG, R']
        · exact h3.env e he
    · cases h
  · cases h

attribute [go_sem] St.trunc

theorem k_trunc {P : Program} {c : Code} {st st' : St} {Q : Exit → St → Prop} (t : Nat) (h : Tri P c st' Q) (hst : st.trunc t = some st' := by simp only [go_sem, reduceIte, Nat.reduceLT, Nat.reduceLeDiff, Nat.reduceEqDiff, Nat.reduceAdd, Nat.reduceSub, Nat.reduceMul, Nat.reduceBEq, Int.reduceEq, Int.reduceToNat, UInt8.reduceToNat, F] <;> rfl) : Tri P c st Q := tri_into (into_trunc t hst) h
theorem r_trunc {P : Program} {ops : Array Oper} {i k : Nat} {st st' : St} {Q : St → Prop} (t : Nat) (h : Run P ops i k st' Q) (hst : st.trunc t = some st' := by simp only [go_sem, reduceIte, Nat.reduceLT, Nat.reduceLeDiff, Nat.reduceEqDiff, Nat.reduceAdd, Nat.reduceSub, Nat.reduceMul, Nat.reduceBEq, Int.reduceEq, Int.reduceToNat, UInt8.reduceToNat, F] <;> rfl) : Run P ops i k st Q := r_into (into_trunc t hst) h

/-- A new variable. -/
theorem gstep_alloc {P : Program} {T : Tab} {ops : Array Oper} {st0 s : St} (hT : TabOk P T) {i d t : Nat} {o : Oper} {e : TE} {pre : List OD} (h0 : noDup (keysE st0.env) = true) (ho : ops[i]? = some o) (hop : o.op = .alloc t) (hd : o.dst = some d)
    (hs : xs st0 pre = s) (hg : evGuardL s ops.toList o.guard = some true) (ht : T.get t = some e) (hf : freshD d st0 = true) : GStep P ops st0 pre ⟨i, d, [((d, 0), .adr (d, 0) [0])], [⟨(d, 0), false, e.zero⟩]⟩ := by
  intro X hp hX Z w0 E0 pins gr a w hr K Q' hK
  subst hs
  have hle := xs_le h0 hp hX.all hX.nd hr
  have hfx := xs_fresh (x := ⟨i, d, [((d, 0), .adr (d, 0) [0])], [⟨(d, 0), false, e.zero⟩]⟩) hf hX
  rw [evGuardL_eq] at hg
  refine evOp_ok hT hr ho (st' := xs st0 (⟨i, d, [((d, 0), .adr (d, 0) [0])], [⟨(d, 0), false, e.zero⟩]⟩ :: X)) ?_ hK
  unfold evOp
  rw [hle.guard hg]
  have hq : evQ T (xs st0 X) true o.op = none := by rw [hop]; rfl
  simp only [hd, hq]
  have hm : evM T (xs st0 X) d o.type o.op = some ({ xs st0 X with roots := ⟨(d, 0), false, e.zero⟩ :: (xs st0 X).roots }, .adr (d, 0) [0]) := by
    rw [hop]; simp only [evM, evAlloc, ht, St.add_fresh hfx]
  simp only [hm, xs, List.cons_append, List.nil_append]
  exact fresh_put hfx _

theorem a_alloc {P : Program} {T : Tab} {ops : Array Oper} {st : St} {C : List (List Nat)} {A : List OD} (hT : TabOk P T) {d t : Nat} {o : Oper} {e : TE} {s : St} {pre : List OD} (i : Nat) (idxs : List Nat) (h : Acc P ops st C A) (ho : nthO ops.toList i = some o := by simp only [go_sem, reduceIte, Nat.reduceLT, Nat.reduceLeDiff, Nat.reduceEqDiff, Nat.reduceAdd, Nat.reduceSub, Nat.reduceMul, Nat.reduceBEq, Int.reduceEq, Int.reduceToNat, UInt8.reduceToNat, F] <;> rfl) (hop : o.op = .alloc t := by rfl) (hd : o.dst = some d := by rfl)
    (hpre : pickI idxs A = pre := by rfl) (hs : xs st pre = s := by simp only [go_sem, reduceIte, Nat.reduceLT, Nat.reduceLeDiff, Nat.reduceEqDiff, Nat.reduceAdd, Nat.reduceSub, Nat.reduceMul, Nat.reduceBEq, Int.reduceEq, Int.reduceToNat, UInt8.reduceToNat, F] <;> rfl) (hg : evGuardL s ops.toList o.guard = some true := by simp only [go_sem, reduceIte, Nat.reduceLT, Nat.reduceLeDiff, Nat.reduceEqDiff, Nat.reduceAdd, Nat.reduceSub, Nat.reduceMul, Nat.reduceBEq, Int.reduceEq, Int.reduceToNat, UInt8.reduceToNat, F] <;> rfl) (ht : T.get t = some e := by rfl)
    (h0 : noDup (keysE st.env) = true := by kernel_rfl) (hf : freshD d st = true := by kernel_rfl) (hin : allIn (getL C i) idxs = true := by kernel_rfl) : Acc P ops st C (⟨i, d, [((d, 0), .adr (d, 0) [0])], [⟨(d, 0), false, e.zero⟩]⟩ :: A) :=
  acc_add idxs h hpre hin (gstep_alloc hT h0 (nth_at ho) hop hd hs hg ht hf)

attribute [go_sem] Nat.sub_zero
end Go.Proofs.YtddfcajdelfikaaDoor.Vm
