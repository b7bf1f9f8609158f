/- A state that knows more tells the same. -/
import Derived.Test.YtddfcajdelfikaaDoorVm27
set_option linter.unusedVariables false
set_option linter.unusedSimpArgs false
set_option linter.unusedSectionVars false
namespace Go.Proofs.YtddfcajdelfikaaDoor.Vm
open Go
open GV (absL extsL fzL)
open PV (frzL)

/-- t knows all that s knows. -/
structure Le (s t : St) : Prop where
  env : ∀ x c tv, lk s.env x c = some tv → lk t.env x c = some tv
  roots : ∀ k R, rlk s.roots k = some R → rlk t.roots k = some R
  nt : t.nt = s.nt
  pk : t.pk = s.pk

section
variable {s t : St} {T : Tab} {G : Bool}

theorem Le.opv (h : Le s t) {x : Operand} {v : TV} (e : s.opv x = some v) : t.opv x = some v := by
  cases x with
  | tmp n => exact h.env _ _ _ e
  | const v => exact e
  | func f => exact e
  | global g => exact e

theorem Le.opg (h : Le s t) {x : Operand} {v : TV} (e : s.opg G x = some v) : t.opg G x = some v := by
  unfold St.opg at e ⊢
  cases h1 : s.opv x with
  | none => rw [h1] at e; cases e
  | some r => rw [h1] at e; rw [h.opv h1]; exact e

theorem Le.sc (h : Le s t) {x : Operand} {v : PV} (e : s.sc G x = some v) : t.sc G x = some v := by
  unfold St.sc at e ⊢
  cases h1 : s.opg G x with
  | none => rw [h1] at e; cases e
  | some r => rw [h1] at e; rw [h.opg h1]; exact e

theorem Le.load (h : Le s t) {ty : Nat} {x : Operand} {v : TV} (e : evLoad T s G ty x = some v) : evLoad T t G ty x = some v := by
  unfold evLoad at e ⊢
  split at e
  · rename_i h1 h2
    simp only [h1, h.opg h2]
    split at e
    · rename_i h3; simp only [h.roots _ _ h3]; exact e
    · cases e
  · rename_i h1 h2
    simp only [h1, h.opg h2]; exact e
  · rename_i h1 h2
    simp only [h1, h.opg h2]
    split at e
    · rename_i h3; simp only [h.roots _ _ h3]; exact e
    · cases e
  · cases e

theorem Le.fieldAddr (h : Le s t) {ty f : Nat} {x : Operand} {v : TV} (e : evFieldAddr T s G ty x f = some v) : evFieldAddr T t G ty x f = some v := by
  unfold evFieldAddr at e ⊢
  split at e
  · rename_i h1 h2; simp only [h1, h.opg h2]; exact e
  · rename_i h1 h2; simp only [h1, h.opg h2]; exact e
  · rename_i h1 h2; simp only [h1, h.opg h2]; exact e
  · cases e

theorem Le.field (h : Le s t) {ty f : Nat} {x : Operand} {v : TV} (e : evField T s G ty x f = some v) : evField T t G ty x f = some v := by
  unfold evField at e ⊢
  split at e
  · rename_i h1 h2; simp only [h1, h.opg h2]; exact e
  · rename_i h1 h2
    simp only [h1, h.opg h2]
    split at e
    · rename_i h3; simp only [h.roots _ _ h3]; exact e
    · cases e
  · cases e

theorem Le.indexAddr (h : Le s t) {ty : Nat} {x i : Operand} {v : TV} (e : evIndexAddr T s G ty x i = some v) : evIndexAddr T t G ty x i = some v := by
  unfold evIndexAddr at e ⊢
  split at e
  · rename_i h1 h2 h3; simp only [h1, h.opg h2, h.sc h3]; exact e
  · rename_i h1 h2 h3
    simp only [h1, h.opg h2, h.sc h3]
    split at e
    · rename_i h4; simp only [h.roots _ _ h4]; exact e
    · cases e
  · rename_i h1 h2 h3
    simp only [h1, h.opg h2, h.sc h3]
    split at e
    · rename_i h4; simp only [h.roots _ _ h4]; exact e
    · cases e
  · cases e

theorem Le.index (h : Le s t) {ty : Nat} {x i : Operand} {v : TV} (e : evIndex T s G ty x i = some v) : evIndex T t G ty x i = some v := by
  unfold evIndex at e ⊢
  split at e
  · rename_i h1 h2 h3; simp only [h1, h.sc h2, h.sc h3]; exact e
  · cases e

theorem Le.len (h : Le s t) {ty : Nat} {x : Operand} {v : TV} (e : evLen T s G ty x = some v) : evLen T t G ty x = some v := by
  unfold evLen at e ⊢
  split at e
  · rename_i h1 h2; simp only [h1, h.opg h2]; exact e
  · rename_i h1 h2; simp only [h1, h.opg h2]; exact e
  · rename_i h1 h2; simp only [h1, h.opg h2]; exact e
  · rename_i h1 h2; simp only [h1, h.opg h2]; exact e
  · rename_i h1 h2
    simp only [h1, h.opg h2]
    split at e
    · rename_i h4; simp only [h.roots _ _ h4]; exact e
    · cases e
  · cases e

theorem Le.binTV (h : Le s t) {op : BinOp} {ty : Nat} {x y : Operand} {v : TV} (e : evBinTV T s G op ty x y = some v) : evBinTV T t G op ty x y = some v := by
  unfold evBinTV at e ⊢
  split at e
  · rename_i h1 h2; simp only [h.sc h1, h.sc h2]; exact e
  · cases e

theorem Le.eqS (h : Le s t) {op : BinOp} {ty : Nat} {x y : Operand} {v : TV} (e : evEqS T s G op ty x y = some v) : evEqS T t G op ty x y = some v := by
  unfold evEqS at e ⊢
  split at e
  · rename_i h0 h1 h2; simp only [h0, h.opg h1, h.opg h2]; exact e
  · cases e

theorem Le.not (h : Le s t) {x : Operand} {v : TV} (e : evNot s G x = some v) : evNot t G x = some v := by
  unfold evNot at e ⊢
  split at e
  · rename_i h1; simp only [h.sc h1]; exact e
  · cases e

theorem Le.neg (h : Le s t) {x : Operand} {v : TV} (e : evNeg s G x = some v) : evNeg t G x = some v := by
  unfold evNeg at e ⊢
  split at e
  · rename_i h1; simp only [h.sc h1]; exact e
  · cases e

theorem Le.pick (h : Le s t) {c x y : Operand} {v : TV} (e : evPick s G c x y = some v) : evPick t G c x y = some v := by
  unfold evPick at e ⊢
  split at e
  · rename_i h1 h2 h3; simp only [h.sc h1, h.opv h2, h.opv h3]; exact e
  · rename_i h1 h2 h3; simp only [h.sc h1, h.opv h2, h.opv h3]; exact e
  · rename_i h1 h2 h3; simp only [h.sc h1, h.opv h2, h.opv h3]; exact e
  · cases e

theorem Le.conv (h : Le s t) {a b : Nat} {x : Operand} {v : TV} (e : evConv T s G a b x = some v) : evConv T t G a b x = some v := by
  unfold evConv at e ⊢
  split at e
  · rename_i h0 h1 h2; simp only [h0, h1, h.sc h2]; exact e
  · rename_i h0 h1 h2; simp only [h0, h1, h.sc h2]; exact e
  · cases e

theorem Le.bound (h : Le s t) {d : Nat} {x : Option Operand} {v : Int} (e : bound s G d x = some v) : bound t G d x = some v := by
  unfold Vm.bound at e ⊢
  cases x with
  | none => exact e
  | some x =>
    simp only [] at e ⊢
    split at e
    · rename_i h1; simp only [h.sc h1]; exact e
    · cases e

theorem Le.sliceStr (h : Le s t) {ty : Nat} {x : Operand} {lo hi : Option Operand} {v : TV} (e : evSliceStr T s G ty x lo hi = some v) : evSliceStr T t G ty x lo hi = some v := by
  unfold evSliceStr at e ⊢
  split at e
  · rename_i h1 h2
    simp only [h1, h.sc h2]
    split at e
    · rename_i h3 h4; simp only [h.bound h3, h.bound h4]; exact e
    · cases e
  · cases e

theorem Le.sliceSl (h : Le s t) {ty : Nat} {x : Operand} {lo hi : Option Operand} {v : TV} (e : evSliceSl T s G ty x lo hi = some v) : evSliceSl T t G ty x lo hi = some v := by
  unfold evSliceSl at e ⊢
  split at e
  · rename_i h1 h2
    simp only [h1, h.opg h2]
    split at e
    · rename_i hs
      rw [if_pos hs]
      split at e
      · rename_i h3 h4; simp only [h.bound h3, h.bound h4]; exact e
      · cases e
    · cases e
  · rename_i h1 h2
    simp only [h1, h.opg h2]
    split at e
    · rename_i h5
      simp only [h.roots _ _ h5]
      split at e
      · rename_i h6
        split at e
        · rename_i hs
          rw [if_pos hs]
          split at e
          · rename_i h3 h4; simp only [h.bound h3, h.bound h4]; exact e
          · cases e
        · cases e
      · rename_i h6
        split at e
        · rename_i hs
          rw [if_pos hs]
          split at e
          · rename_i h3 h4; simp only [h.bound h3, h.bound h4]; exact e
          · cases e
        · cases e
      · cases e
    · cases e
  · rename_i h1 h2
    simp only [h1, h.opg h2]
    split at e
    · rename_i h5
      simp only [h.roots _ _ h5]
      split at e
      · rename_i h6
        split at e
        · rename_i hs
          rw [if_pos hs]
          split at e
          · rename_i h3 h4; simp only [h.bound h3, h.bound h4]; exact e
          · cases e
        · cases e
      · cases e
    · cases e
  · cases e

theorem Le.extract (h : Le s t) {x : Operand} {i : Nat} {v : TV} (e : evExtract s G x i = some v) : evExtract t G x i = some v := by
  unfold evExtract at e ⊢
  cases x with
  | tmp n =>
    simp only [] at e ⊢
    cases h1 : lk s.env n (i + 1) with
    | none => rw [h1] at e; cases e
    | some r => rw [h1] at e; rw [h.env _ _ _ h1]; exact e
  | const v => cases e
  | func f => cases e
  | global g => cases e

theorem Le.nilCheck (h : Le s t) {x : Operand} {v : TV} (e : evNilCheck s G x = some v) : evNilCheck t G x = some v := by
  unfold evNilCheck at e ⊢
  split at e
  · rename_i h1; simp only [h.opg h1]; exact e
  · rename_i h1; simp only [h.opg h1]; exact e
  · cases e

theorem Le.maxMin (h : Le s t) {b : Bool} {x y : Operand} {v : TV} (e : evMaxMin b s G x y = some v) : evMaxMin b t G x y = some v := by
  unfold evMaxMin at e ⊢
  split at e
  · rename_i h1 h2; simp only [h.sc h1, h.sc h2]; exact e
  · rename_i h1 h2; simp only [h.sc h1, h.sc h2]; exact e
  · cases e

/-- Which of the two sides is taken may not turn: where the first is none on the smaller side it must be none on the greater. -/
theorem binTV_none (h : Le s t) {op : BinOp} {ty : Nat} {x y : Operand} {v : TV} (e1 : evEqS T s G op ty x y = some v) : evBinTV T t G op ty x y = none := by
  unfold evEqS at e1
  split at e1
  · rename_i h0 h1 h2
    unfold evBinTV St.sc
    rw [h.opg h1]
  · cases e1

theorem sliceStr_none (h : Le s t) {ty : Nat} {x : Operand} {lo hi : Option Operand} {v : TV} (e1 : evSliceSl T s G ty x lo hi = some v) : evSliceStr T t G ty x lo hi = none := by
  unfold evSliceSl at e1
  unfold evSliceStr St.sc
  split at e1
  · rename_i h1 h2
    rw [h.opg h2]
    split <;> simp_all
  · rename_i h1 h2
    rw [h.opg h2]
    split <;> simp_all
  · rename_i h1 h2
    rw [h.opg h2]
    split <;> simp_all
  · cases e1

theorem Le.evQ (h : Le s t) {op : Op} {v : TV} (e : evQ T s G op = some v) : evQ T t G op = some v := by
  unfold Vm.evQ at e ⊢
  split at e
  · exact h.opg e
  · exact h.pick e
  · exact h.load e
  · exact h.nilCheck e
  · rename_i op' ty x y pos
    cases h1 : evBinTV T s G op' ty x y with
    | some r => rw [h1] at e; simp only [h.binTV h1]; exact e
    | none => rw [h1] at e; simp only [orElse] at e; rw [binTV_none h e]; exact h.eqS e
  · exact h.not e
  · exact h.neg e
  · exact h.conv e
  · rename_i ty x lo hi
    cases h1 : evSliceStr T s G ty x lo hi with
    | some r => rw [h1] at e; simp only [h.sliceStr h1]; exact e
    | none => rw [h1] at e; simp only [orElse] at e; rw [sliceStr_none h e]; exact h.sliceSl e
  · exact h.fieldAddr e
  · exact h.field e
  · exact h.indexAddr e
  · exact h.index e
  · exact h.extract e
  · exact h.len e
  · exact h.maxMin e
  · exact h.maxMin e
  · cases e

theorem Le.guard (h : Le s t) {ops : Array Oper} {g : Option (Nat × Bool)} {b : Bool} (e : evGuard s ops g = some b) : evGuard t ops g = some b := by
  unfold evGuard at e ⊢
  split at e
  · exact e
  · rename_i j want
    split at e
    · rename_i h1
      split at e
      · rename_i h2; simp only [h.env _ _ _ h2]; exact e
      · rename_i h2; simp only [h.env _ _ _ h2]; exact e
      · cases e
    · cases e

/-! ### arguments that are only read -/

theorem Le.capRow (h : Le s t) {c : Cap} {v : List PV × List Key} (e : capRow s c = some v) : capRow t c = some v := by
  unfold Vm.capRow at e ⊢
  split at e
  · exact e
  · split at e
    · rename_i h1; simp only [h.roots _ _ h1]; exact e
    · cases e
  · cases e

theorem Le.capRows (h : Le s t) : ∀ {c : List Cap} {v : List (List PV) × List Key}, capRows s c = some v → capRows t c = some v
  | [], v, e => e
  | c :: cs, v, e => by
    unfold Vm.capRows at e ⊢
    split at e
    · rename_i h1 h2; simp only [h.capRow h1, h.capRows h2]; exact e
    · cases e

theorem Le.passVal (h : Le s t) {x : Operand} {ty : Nat} {v : PassR} (e : passVal T s x ty = some v) : passVal T t x ty = some v := by
  unfold Vm.passVal at e ⊢
  split at e
  · rename_i h1; simp only [h.opg h1]; exact e
  · rename_i h1; simp only [h.opg h1]; exact e
  · rename_i h1
    simp only [h.opg h1]
    split at e
    · rename_i h2; simp only [h.roots _ _ h2]; exact e
    · cases e
  · rename_i h1
    simp only [h.opg h1]
    split at e
    · rename_i h2; simp only [h.roots _ _ h2]; exact e
    · cases e
  · cases e

theorem Le.passOwn (h : Le s t) {x : Operand} {ty : Nat} {v : PassR} (e : passOwn T s x ty = some v) : passOwn T t x ty = some v := by
  unfold Vm.passOwn at e ⊢
  split at e
  · rename_i h1; simp only [h.opg h1]; exact e
  · rename_i h1; simp only [h.opg h1]; exact e
  · rename_i h1
    simp only [h.opg h1]
    split at e
    · rename_i h2; simp only [h.roots _ _ h2, h.pk]; exact e
    · cases e
  · cases e

theorem Le.passOne (h : Le s t) {m : Md} {x : Operand} {ty : Nat} {v : PassR} (e : passOne T s m x ty = some v) : passOne T t m x ty = some v := by
  unfold Vm.passOne at e ⊢
  cases m with
  | val => exact h.passVal e
  | own => exact h.passOwn e
  | ino =>
    simp only [] at e ⊢
    split at e
    · rename_i h1
      simp only [h.opg h1]
      split at e
      · rename_i h2; simp only [h.roots _ _ h2]; exact e
      · cases e
    · cases e
  | ref n =>
    simp only [] at e ⊢
    split at e
    · rename_i h1
      simp only [h.opg h1]
      split at e
      · rename_i h2; simp only [h.roots _ _ h2]; exact e
      · cases e
    · cases e
  | fptr n =>
    simp only [] at e ⊢
    split at e
    · rename_i h1; simp only [h.opg h1]; exact e
    · rename_i h1
      simp only [h.opg h1]
      split at e
      · rename_i h2; simp only [h.roots _ _ h2]; exact e
      · cases e
    · cases e
  | clo =>
    simp only [] at e ⊢
    split at e
    · rename_i h1
      simp only [h.opg h1]
      split at e
      · rename_i h2; simp only [h.capRows h2]; exact e
      · cases e
    · cases e

theorem Le.passAll (h : Le s t) : ∀ {ms : List Md} {xs : List Operand} {ts : List Nat} {v : List PassR}, passAll T s ms xs ts = some v → passAll T t ms xs ts = some v
  | [], [], [], v, e => e
  | m :: ms, x :: xs, ty :: ts, v, e => by
    unfold Vm.passAll at e ⊢
    split at e
    · rename_i h1 h2; simp only [h.passOne h1, h.passAll h2]; exact e
    · cases e
  | [], [], _ :: _, _, e => by cases e
  | [], _ :: _, _, _, e => by cases e
  | _ :: _, [], _, _, e => by cases e
  | _ :: _, _ :: _, [], _, e => by cases e
end

end Go.Proofs.YtddfcajdelfikaaDoor.Vm
