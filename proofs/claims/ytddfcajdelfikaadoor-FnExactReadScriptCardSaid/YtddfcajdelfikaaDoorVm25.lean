/- Rules as proofs use them. -/
import Derived.Test.YtddfcajdelfikaaDoorVm24
set_option linter.unusedVariables false
set_option linter.unusedSimpArgs false
set_option linter.unusedSectionVars false
namespace Go.Proofs.YtddfcajdelfikaaDoor.Vm
open Go

attribute [go_sem] calleeOf capRow capRows capsPass passVal passOwn passOne passAll usesOf lendsOf frzOf noDup noneIn okPass TV.safeI TV.onD TV.onAny keepC keepRC newEnv newRoots startC cleanR noD St.behind cleanQ safeQ back PV.clean PV.cleanL
  PV.frz PV.frzL

/-- Operations from number i on, k of them. -/
def Run (P : Program) (ops : Array Oper) (i k : Nat) (st : St) (Q : St → Prop) : Prop := TriOps P ops (List.range' i k) st Q

section
variable {P : Program} {T : Tab} {ops : Array Oper} {st : St} {Q : St → Prop}

theorem run_end {i : Nat} (h : Q st) : Run P ops i 0 st Q := triOps_nil h

theorem tri_run {id k : Nat} {Q : Exit → St → Prop} (hk : ops.size = k) (h : Run P ops 0 k st (Q .normal)) : Tri P (.region id ops false) st Q := by
  refine tri_region ?_
  rw [List.range_eq_range', hk]
  exact h

theorem evL_take (T : Tab) (ops : Array Oper) : ∀ (n i : Nat) (st : St), i + n ≤ ops.size → evL T ops.toList ((ops.toList.drop i).take n) st = evOps T ops (List.range' i n) st
  | 0, i, st, h => by simp [evL, evOps]
  | n + 1, i, st, h => by
    have hi : i < ops.toList.length := by simp; omega
    rw [List.drop_eq_getElem_cons hi]
    have hg : ops[i]? = some ops.toList[i] := by
      rw [← Array.getElem?_toList, List.getElem?_eq_getElem hi]
    simp only [List.take_succ_cons, evL, List.range'_succ, evOps, hg, evOpG_eq]
    cases evOp T st ops ops.toList[i] with
    | none => rfl
    | some st1 => exact evL_take T ops n (i + 1) st1 (by omega)

theorem triOps_pre (hT : TabOk P T) : ∀ {l l' : List Nat} {st st' : St}, evOps T ops l st = some st' → TriOps P ops l' st' Q → TriOps P ops (l ++ l') st Q
  | [], l', st, st', he, h => by simp only [evOps] at he; cases he; exact h
  | i :: l, l', st, st', he, h => by
    simp only [evOps] at he
    split at he
    · rename_i o ho
      split at he
      · rename_i st1 h1
        exact triOps_op hT ho h1 (triOps_pre hT he h)
      · cases he
    · cases he

/-- Plain operations, n of them. -/
theorem run_ops (hT : TabOk P T) {i : Nat} (n : Nat) {k : Nat} {l : List Oper} {st' : St} (hl : (ops.toList.drop i).take n = l) (hn : Nat.ble (i + n) ops.size = true) (he : evL T ops.toList l st = some st') (h : Run P ops (i + n) k st' Q) : Run P ops i (n + k) st Q := by
  unfold Run at h ⊢
  rw [← List.range'_append_1]
  refine triOps_pre hT ?_ h
  rw [← evL_take T ops n i st (Nat.le_of_ble_eq_true hn), hl]
  exact he

/-- A call. -/
theorem run_call (hT : TabOk P T) {i k : Nat} {o : Oper} {d : Nat} {fop : Operand} {xs : Array Operand} {ts : Array TypeId} {f : FuncId} {crs rs : List PassR} {R : List (Bool × List PV) → List (List PV) → Prop}
    (ms : List Md) (ho : ops[i]? = some o) (hop : o.op = .call ⟨.value fop, xs, ts⟩) (hd : o.dst = some d) (hg : evGuardL st ops.toList o.guard = some true) (hcal : calleeOf st fop = some (f, crs))
    (hp : passAll T st ms xs.toList ts.toList = some rs) (hok : okPass (rs ++ crs) = true) {args : List PArg} (hgood : Good P f args R) (hargs : (rs ++ crs).map PassR.x = args)
    (hk : ∀ rets outs, R rets outs → ∃ st2, back st (rs ++ crs) d rets outs = some st2 ∧ Run P ops (i + 1) k st2 Q) : Run P ops i (k + 1) st Q := by
  unfold Run at hk ⊢
  rw [List.range'_succ]
  subst hargs
  exact triOps_call hT ho hop hd (by rw [evGuardL_eq] at hg; exact hg) hcal ms hp hok hgood hk

variable {Q : Exit → St → Prop}

theorem tri_if {c : Operand} {x y : Code} {b : Bool} (hc : st.sc true c = some (.bool b)) (h1 : b = true → Tri P x st Q) (h2 : b = false → Tri P y st Q) : Tri P (.cond c x y) st Q := by
  refine tri_cond hc ?_
  cases b with
  | true => exact h1 rfl
  | false => exact h2 rfl

theorem tri_mid {x y : Code} (M : St → Prop) (h1 : Tri P x st fun e s => match e with | .normal => M s | e => Q e s) (h2 : ∀ s, M s → Tri P y s Q) : Tri P (.seq x y) st Q := by
  refine tri_seq (tri_mono h1 ?_)
  intro e s h
  cases e with
  | normal => exact h2 s h
  | exit id => exact h
  | goto l => exact h
  | ret => exact h
  | panic ch => exact h
  | outgrown => exact h

theorem ends_ret {res : List ResultVar} {args : List PArg} {R : List (Bool × List PV) → List (List PV) → Prop} {st1 : St} {rets : List (Bool × List PV)} {outs : List (List PV)}
    (h1 : outVars T st res = some (st1, rets)) (h2 : argOuts st1 0 args = some outs) (h : R rets outs) : EndsIn T res args R .ret st := ⟨st1, rets, outs, h1, h2, h⟩

theorem ends_normal {res : List ResultVar} {args : List PArg} {R : List (Bool × List PV) → List (List PV) → Prop} {st1 : St} {rets : List (Bool × List PV)} {outs : List (List PV)}
    (h1 : outVars T st res = some (st1, rets)) (h2 : argOuts st1 0 args = some outs) (h : R rets outs) : EndsIn T res args R .normal st := ⟨st1, rets, outs, h1, h2, h⟩

/-- What a state may forget. -/
def hasT : List Nat → Nat → Bool
  | [], _ => false
  | t :: ts, k => Nat.beq t k || hasT ts k

def keepT (ks : List Nat) : List (Key × TV) → List (Key × TV)
  | [] => []
  | e :: r => bif hasT ks e.1.1 then e :: keepT ks r else keepT ks r

theorem mem_keepT {ks : List Nat} : ∀ {env : List (Key × TV)} {e : Key × TV}, e ∈ keepT ks env → e ∈ env
  | [], _, h => h
  | e0 :: r, e, h => by
    simp only [keepT] at h
    cases hb : hasT ks e0.1.1 with
    | true =>
      rw [hb] at h
      rcases List.mem_cons.1 h with rfl | h
      · exact List.mem_cons_self
      · exact List.mem_cons_of_mem _ (mem_keepT h)
    | false => rw [hb] at h; exact List.mem_cons_of_mem _ (mem_keepT h)

theorem tri_forget {c : Code} (ks : List Nat) {st' : St} (hst : { st with env := keepT ks st.env } = st') (h : Tri P c st' Q) : Tri P c st Q := by
  subst hst
  exact fun Z w0 E0 pins gr a w hr => h Z w0 E0 pins gr a w (hr.weaken (fun e he => mem_keepT he))

/-- Entries of the environment may be given in any order, and fewer. -/
def subEnv : List (Key × TV) → List (Key × TV) → Prop := fun env env' => ∀ e, e ∈ env' → e ∈ env

theorem tri_sub {c : Code} {env' : List (Key × TV)} (hs : ∀ e, e ∈ env' → e ∈ st.env) (h : Tri P c { st with env := env' } Q) : Tri P c st Q :=
  fun Z w0 E0 pins gr a w hr => h Z w0 E0 pins gr a w (hr.weaken hs)

theorem good_body (hT : TabOk P T) {f : FuncId} {fn : Func} {c : Code} (nt : Nat) (res : List ResultVar) {args : List PArg} {R : List (Bool × List PV) → List (List PV) → Prop}
    (hf : P.funcs[f]? = some fn) (hname : (fn.name == "runtime.NumGoroutine") = false) (hb : fn.body = some c) (hn : args.length + (fn.ntmps - args.length) = nt) (hr : fn.results.toList = res) (hbody : Tri P c (start nt args) (EndsIn T res args R)) : Good P f args R := by
  subst hr
  exact good_of_body hT hf hname hb hn hbody

/-! ### with the calculations done on the way -/

theorem seq_ops (hT : TabOk P T) {id : Nat} {y : Code} {st' : St} (h : Tri P y st' Q) (he : evL T ops.toList ops.toList st = some st' := by simp only [go_sem, reduceIte, Nat.reduceLT, Nat.reduceLeDiff, Nat.reduceEqDiff, Nat.reduceAdd, Nat.reduceSub, Nat.reduceMul, Nat.reduceBEq, Int.reduceEq, Int.reduceToNat] <;> rfl) : Tri P (.seq (.region id ops false) y) st Q :=
  tri_seq (tri_ops hT he h)

theorem one_ops (hT : TabOk P T) {id : Nat} {st' : St} (h : Q .normal st') (he : evL T ops.toList ops.toList st = some st' := by simp only [go_sem, reduceIte, Nat.reduceLT, Nat.reduceLeDiff, Nat.reduceEqDiff, Nat.reduceAdd, Nat.reduceSub, Nat.reduceMul, Nat.reduceBEq, Int.reduceEq, Int.reduceToNat] <;> rfl) : Tri P (.region id ops false) st Q :=
  tri_ops hT he h

theorem seq_run {id : Nat} {y : Code} (k : Nat) (h : Run P ops 0 k st fun s => Tri P y s Q) (hk : ops.size = k := by rfl) : Tri P (.seq (.region id ops false) y) st Q :=
  tri_seq (tri_run hk h)

theorem go_ops {i : Nat} {Q : St → Prop} (hT : TabOk P T) (n k : Nat) {l : List Oper} {st' : St} (h : Run P ops (i + n) k st' Q) (hl : (ops.toList.drop i).take n = l := by rfl) (hn : Nat.ble (i + n) ops.size = true := by rfl) (he : evL T ops.toList l st = some st' := by simp only [go_sem, reduceIte, Nat.reduceLT, Nat.reduceLeDiff, Nat.reduceEqDiff, Nat.reduceAdd, Nat.reduceSub, Nat.reduceMul, Nat.reduceBEq, Int.reduceEq, Int.reduceToNat] <;> rfl) : Run P ops i (n + k) st Q :=
  run_ops hT n hl hn he h

theorem go_call {Q : St → Prop} (hT : TabOk P T) {i : Nat} (k : Nat) {o : Oper} {d : Nat} {fop : Operand} {xs : Array Operand} {ts : Array TypeId} {f : FuncId} {crs rs : List PassR} {R : List (Bool × List PV) → List (List PV) → Prop}
    (ms : List Md) {args : List PArg} (hgood : Good P f args R)
    (hk : ∀ rets outs, R rets outs → ∃ st2, back st (rs ++ crs) d rets outs = some st2 ∧ Run P ops (i + 1) k st2 Q)
    (ho : ops[i]? = some o := by rfl) (hop : o.op = .call ⟨.value fop, xs, ts⟩ := by rfl) (hd : o.dst = some d := by rfl) (hg : evGuardL st ops.toList o.guard = some true := by rfl) (hcal : calleeOf st fop = some (f, crs) := by rfl)
    (hp : passAll T st ms xs.toList ts.toList = some rs := by simp only [go_sem, reduceIte, Nat.reduceLT, Nat.reduceLeDiff, Nat.reduceEqDiff, Nat.reduceAdd, Nat.reduceSub, Nat.reduceMul, Nat.reduceBEq, Int.reduceEq, Int.reduceToNat] <;> rfl) (hok : okPass (rs ++ crs) = true := by rfl) (hargs : (rs ++ crs).map PassR.x = args := by rfl) : Run P ops i (k + 1) st Q :=
  run_call hT ms ho hop hd hg hcal hp hok hgood hargs hk

theorem go_back {Q : St → Prop} {i k : Nat} {rs : List PassR} {d : Nat} {rets : List (Bool × List PV)} {outs : List (List PV)} {st2 : St} (h : Run P ops i k st2 Q) (hb : back st rs d rets outs = some st2 := by simp only [go_sem, reduceIte, Nat.reduceLT, Nat.reduceLeDiff, Nat.reduceEqDiff, Nat.reduceAdd, Nat.reduceSub, Nat.reduceMul, Nat.reduceBEq, Int.reduceEq, Int.reduceToNat] <;> rfl) :
    ∃ st2, back st rs d rets outs = some st2 ∧ Run P ops i k st2 Q := ⟨st2, hb, h⟩

theorem go_if {c : Operand} {x y : Code} {b : Bool} (h1 : b = true → Tri P x st Q) (h2 : b = false → Tri P y st Q) (hc : st.sc true c = some (.bool b) := by simp only [go_sem, reduceIte, Nat.reduceLT, Nat.reduceLeDiff, Nat.reduceEqDiff, Nat.reduceAdd, Nat.reduceSub, Nat.reduceMul, Nat.reduceBEq, Int.reduceEq, Int.reduceToNat] <;> rfl) : Tri P (.cond c x y) st Q := tri_if hc h1 h2

theorem go_ret {res : List ResultVar} {args : List PArg} {R : List (Bool × List PV) → List (List PV) → Prop} {st1 : St} {rets : List (Bool × List PV)} {outs : List (List PV)}
    (h : R rets outs) (hq : ∀ s, EndsIn T res args R .ret s → Q .ret s := by exact fun _ h => h) (h1 : outVars T st res = some (st1, rets) := by simp only [go_sem, reduceIte, Nat.reduceLT, Nat.reduceLeDiff, Nat.reduceEqDiff, Nat.reduceAdd, Nat.reduceSub, Nat.reduceMul, Nat.reduceBEq, Int.reduceEq, Int.reduceToNat] <;> rfl) (h2 : argOuts st1 0 args = some outs := by simp only [go_sem, reduceIte, Nat.reduceLT, Nat.reduceLeDiff, Nat.reduceEqDiff, Nat.reduceAdd, Nat.reduceSub, Nat.reduceMul, Nat.reduceBEq, Int.reduceEq, Int.reduceToNat] <;> rfl) : Tri P .ret st Q := tri_ret (hq _ (ends_ret h1 h2 h))

theorem thn_normal {y : Code} {s : St} (h : Tri P y s Q) : Thn P y Q .normal s := h
theorem thn_exit {y : Code} {id : Nat} {s : St} (h : Q (.exit id) s) : Thn P y Q (.exit id) s := h
theorem inblk_here {id : Nat} {s : St} (h : Q .normal s) : InBlk id Q (.exit id) s := by simp only [InBlk, if_true]; exact h
theorem inblk_normal {id : Nat} {s : St} (h : Q .normal s) : InBlk id Q .normal s := h
theorem inblk_other {id id' : Nat} {s : St} (hne : id' ≠ id) (h : Q (.exit id') s) : InBlk id Q (.exit id') s := by simp only [InBlk, if_neg hne]; exact h

theorem go_keep {c : Code} (ks : List Nat) {st' : St} (h : Tri P c st' Q) (hst : { st with env := keepT ks st.env } = st' := by simp only [go_sem, reduceIte, Nat.reduceLT, Nat.reduceLeDiff, Nat.reduceEqDiff, Nat.reduceAdd, Nat.reduceSub, Nat.reduceMul, Nat.reduceBEq, Int.reduceEq, Int.reduceToNat] <;> rfl) : Tri P c st Q := tri_forget ks hst h
end
attribute [go_sem] hasT keepT List.append_nil List.nil_append List.cons_append List.length_cons List.length_nil List.drop_succ_cons List.drop_zero List.drop_nil List.take_succ_cons List.take_zero List.take_nil List.map_cons List.map_nil List.flatten_cons List.flatten_nil List.getElem?_cons_succ List.getElem?_cons_zero List.set_cons_succ List.set_cons_zero getP setP

theorem nat_beq (a b : Nat) : Nat.beq a b = (a == b) := by
  cases h : Nat.beq a b with
  | true => rw [Nat.eq_of_beq_eq_true h]; simp
  | false =>
    have : a ≠ b := fun e => by rw [e] at h; simp at h
    simp [this]

theorem nat_ble (a b : Nat) : Nat.ble a b = decide (a ≤ b) := by
  cases h : Nat.ble a b with
  | true => simp [Nat.le_of_ble_eq_true h]
  | false =>
    have : ¬ a ≤ b := fun e => by rw [Nat.ble_eq_true_of_le e] at h; cases h
    simp [this]

theorem nat_blt (a b : Nat) : Nat.blt a b = decide (a < b) := nat_ble _ _
attribute [go_sem] nat_beq nat_ble nat_blt decide_true decide_false

theorem u8_range (x : Int) : 0 ≤ IntKind.u8.wrap x ∧ IntKind.u8.wrap x < 256 := by
  have : IntKind.u8.wrap x = x % 256 := IntKind.wrap_u8 x
  omega

/-- A byte out of a number. -/
def U8 (x : Int) : UInt8 := UInt8.ofNat (x % 256).toNat

theorem toBytes_wrap (x : Int) (r : List PV) : toBytes (.int .u8 (IntKind.u8.wrap x) :: r) = (toBytes r).map (U8 (IntKind.u8.wrap x) :: ·) := by
  have h := u8_range x
  have e : U8 (IntKind.u8.wrap x) = UInt8.ofNat (IntKind.u8.wrap x).toNat := by
    unfold U8
    rw [Int.emod_eq_of_lt h.1 h.2]
  simp only [toBytes, if_pos h, e]

theorem toBytes_nil : toBytes [] = some [] := rfl
attribute [go_sem] toBytes_wrap toBytes_nil Option.map_some Option.map_none List.replicate_succ List.replicate_zero

theorem ite_and (a b : Bool) : (if a = true then b else false) = (a && b) := by cases a <;> rfl
theorem ite_or (a b : Bool) : (if a = true then true else b) = (a || b) := by cases a <;> rfl
attribute [go_sem] ite_and ite_or

end Go.Proofs.YtddfcajdelfikaaDoor.Vm
