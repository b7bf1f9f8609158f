/- The evaluator's own words, for the calculation of states by rewriting. -/
import Derived.Test.YtddfcajdelfikaaDoorVm16
set_option linter.unusedVariables false
set_option linter.unusedSimpArgs false
namespace Go.Proofs.YtddfcajdelfikaaDoor.Vm
open Go

/-! ### a region's operations as a list -/

def nthO : List Oper → Nat → Option Oper
  | [], _ => none
  | o :: _, 0 => some o
  | _ :: r, j + 1 => nthO r j

theorem nthO_eq : ∀ (l : List Oper) (j : Nat), nthO l j = l[j]?
  | [], _ => rfl
  | _ :: _, 0 => rfl
  | _ :: r, j + 1 => by simp only [nthO, nthO_eq r j, List.getElem?_cons_succ]

def evGuardL (st : St) (all : List Oper) : Option (Nat × Bool) → Option Bool
  | none => some true
  | some (j, want) => match nthO all j with
    | some o => match o.dst with
      | some d => match lk st.env d 0 with
        | some (.val false [.bool b]) => some (b == want)
        | some (.grd g (.val false [.bool b])) => some (g && (b == want))
        | _ => none
      | none => none
    | none => none

theorem evGuardL_eq (st : St) (ops : Array Oper) (g : Option (Nat × Bool)) : evGuardL st ops.toList g = evGuard st ops g := by
  cases g with
  | none => rfl
  | some jw =>
    obtain ⟨j, want⟩ := jw
    simp only [evGuardL, evGuard, nthO_eq, Array.getElem?_toList]
    cases ops[j]? with
    | none => rfl
    | some o =>
      obtain ⟨d, a, b, c, e, f⟩ := o
      cases d <;> rfl

def evOpG (T : Tab) (st : St) (G : Option Bool) (o : Oper) : Option St :=
  match G with
  | none => none
  | some G =>
    match o.dst with
    | some d =>
      match evQ T st G o.op with
      | some tv => st.put? d (isNoneG o.guard) G tv
      | none =>
        match G with
        | true => match evM T st d o.type o.op with
          | some (st1, tv) => st1.put d tv
          | none => none
        | false => st.put d (.grd false (.val false [.bool false]))
    | none =>
      match G with
      | true => match o.op with
        | .store t x y => evStore T st t x y
        | _ => none
      | false => some st

theorem evOpG_eq (T : Tab) (st : St) (ops : Array Oper) (o : Oper) : evOpG T st (evGuardL st ops.toList o.guard) o = evOp T st ops o := by
  rw [evGuardL_eq]; rfl

def evL (T : Tab) (all : List Oper) : List Oper → St → Option St
  | [], st => some st
  | o :: r, st => match evOpG T st (evGuardL st all o.guard) o with
    | some st1 => evL T all r st1
    | none => none

theorem evL_drop (T : Tab) (ops : Array Oper) : ∀ (n i : Nat) (st : St), i + n = ops.size → evL T ops.toList (ops.toList.drop i) st = evOps T ops (List.range' i n) st
  | 0, i, st, h => by
    have : ops.toList.drop i = [] := List.drop_eq_nil_of_le (by simp; omega)
    rw [this]; rfl
  | n + 1, i, st, h => by
    have hi : i < ops.toList.length := by simp; omega
    rw [List.drop_eq_getElem_cons hi]
    have hg : ops[i]? = some ops.toList[i] := by
      rw [← Array.getElem?_toList, List.getElem?_eq_getElem hi]
    simp only [evL, List.range'_succ, evOps, hg, evOpG_eq]
    cases evOp T st ops ops.toList[i] with
    | none => rfl
    | some st1 => exact evL_drop T ops n (i + 1) st1 (by omega)

theorem tri_ops {P : Program} {T : Tab} (hT : TabOk P T) {ops : Array Oper} {id : Nat} {st st' : St} {Q : Exit → St → Prop} (he : evL T ops.toList ops.toList st = some st') (h : Q .normal st') : Tri P (.region id ops false) st Q := by
  refine tri_region (triOps_all hT ?_ h)
  rw [List.range_eq_range']
  have := evL_drop T ops ops.size 0 st (by omega)
  rw [List.drop_zero] at this
  rw [← this]
  exact he

attribute [go_sem] TE.agg lk del rlk keyEq Cap.root TV.on stepLen apart1 safeAdr TV.safe keepE delR St.drop setR St.setAt St.put hasKey St.add constTV St.opv St.opg St.sc chk PV.isOwn hasOwn bump sub
  evInt evShift evStr evBool isShift evBin eqRow sameKinds viewOf evLoad evFieldAddr evField evIndexAddr evIndex evLen evBinTV evNot evNeg evPick evConv bound evSliceStr evExtract evNilCheck
  St.srcRow St.srcDrop PV.deaden St.takeInto isWhole St.src evAlloc evBox evBoxS evAssign evStore laid fieldParts elemParts evBuild St.wrapSl evBuildSlice evMakeSlice flatRow elemsLeaf St.elems St.mvDrop evAppend
  evSliceSl evBytesStr capOf capsOf evMaxMin orElse evEqS evQ evM isNoneG St.put? evOpG evL evGuardL nthO St.keep argTV argRoot argPk startEnv startRoots startPk start outVar outVars argOut argOuts PV.isSc

theorem or_self_not (a : Bool) : (!a || a) = true := by cases a <;> rfl
theorem or_guard (a b : Bool) : (!(a && b) || a) = true := by cases a <;> cases b <;> rfl
theorem or_guard2 (a b c : Bool) : (!(a && b && c) || a) = true := by cases a <;> cases b <;> cases c <;> rfl
theorem or_guard3 (a b c : Bool) : (!(a && b && c) || (a && b)) = true := by cases a <;> cases b <;> cases c <;> rfl
attribute [go_sem] or_self_not or_guard or_guard2 or_guard3 cond_true cond_false Bool.not_true Bool.not_false Bool.false_or Bool.true_or Bool.or_true Bool.or_false Bool.true_and Bool.and_true Bool.false_and Bool.and_false beq_true beq_false

end Go.Proofs.YtddfcajdelfikaaDoor.Vm
