/- Contracts told by hand: what an argument is; results that own nothing. -/
import Derived.Test.YtddfcajdelfikaaDoorVm34
import Derived.Below
import Derived.Lib.Bytealg
import Derived.Laws.Externs
set_option linter.unusedVariables false
set_option linter.unusedSimpArgs false
set_option linter.unusedSectionVars false
namespace Go.Proofs.YtddfcajdelfikaaDoor.Vm
open Go
open GV (absL extsL fzL)
open PV (frzL)

theorem arg_str {w : World} {O : Nat → Nat → Prop} {v : Value} {s : List UInt8} {E : List Ext} (h : ArgOk w O v (.val false [.str s]) E) : E = [] ∧ v = .string ⟨s.toArray⟩ := by
  obtain ⟨h1, gs, h2, h3, h4, g, rfl, h5⟩ := h
  simp only [GV.absL, List.cons.injEq, and_true] at h2
  simp only [SatL, and_true] at h4
  exact ⟨h1, h5.trans (sat_str h4 h2)⟩

theorem arg_int {w : World} {O : Nat → Nat → Prop} {v : Value} {k : IntKind} {n : Int} {E : List Ext} (h : ArgOk w O v (.val false [.int k n]) E) : E = [] ∧ v = .int k n := by
  obtain ⟨h1, gs, h2, h3, h4, g, rfl, h5⟩ := h
  simp only [GV.absL, List.cons.injEq, and_true] at h2
  simp only [SatL, and_true] at h4
  exact ⟨h1, h5.trans (sat_int h4 h2)⟩

theorem ES_get (o : Bool) : ∀ (xs : List (List UInt8)) (i : Nat), (ES.L o xs)[i]? = (xs[i]?).map PV.str
  | [], i => by simp [Enc.L]
  | x :: xs, 0 => by simp [Enc.L, ES_row]
  | x :: xs, i + 1 => by simp [Enc.L, ES_row, ES_get o xs i]

theorem arg_strs {w : World} {O : Nat → Nat → Prop} {v : Value} {xs : List (List UInt8)} {E : List Ext} (h : ArgOk w O v (.val false [.sl false 1 xs.length (ES.L false xs)]) E) :
    E = [] ∧ ∃ a cap, v = .slice (Option.map addrOf a) xs.length cap ∧ xs.length ≤ cap ∧ (a = none → xs.length = 0) ∧ ∀ b o, a = some (b, o) → ∀ i x, xs[i]? = some x → at_ w b (o + i) = some (.string ⟨x.toArray⟩) := by
  obtain ⟨h1, gs, h2, h3, h4, g, rfl, h5⟩ := h
  simp only [GV.absL, List.cons.injEq, and_true] at h2
  simp only [SatL, and_true] at h4
  cases g with
  | sc v p =>
    simp only [GV.abs] at h2
    subst h2
    cases v <;> simp [Sat, ScOk] at h4
  | sl own sz n cap a cells =>
    simp only [GV.abs, PV.sl.injEq] at h2
    obtain ⟨rfl, rfl, rfl, hc⟩ := h2
    simp only [Sat] at h4
    obtain ⟨s1, s2, s3, s4, s5, s6, s7⟩ := h4
    refine ⟨h1, a, cap, h5, s2, fun e => (s3 e).1, fun b o hb i x hx => ?_⟩
    have hg : (absL cells)[i]? = some (.str x) := by rw [hc, ES_get, hx]; rfl
    rw [absL_getElem?] at hg
    cases hq : cells[i]? with
    | none => rw [hq] at hg; cases hg
    | some g =>
      rw [hq] at hg
      simp only [Option.map_some, Option.some.injEq] at hg
      rw [s4 b o hb i g hq, sat_str (s7.get hq) hg]

/-- A function of values that owns nothing, and tells one plain value. -/
theorem goodD_plain2 {P : Program} {f : FuncId} {b1 b2 : Bool} {r1 r2 : List PV} {p : PV} (hp : p.isSc = true)
    (h : ∀ Z w v1 v2 E1 E2, ArgOk w Z v1 (.val b1 r1) E1 → ArgOk w Z v2 (.val b2 r2) E2 → ∃ v, ScOk v p ∧ CallsW P f #[v1, v2] w fun e w' => e = .returned v ∧ Evo w w' (fun _ _ => False)) :
    GoodD P f [.val b1 r1, .val b2 r2] [(false, [p])] [[], []] := by
  intro Z w vs Es ha hap
  cases vs with
  | nil => exact ha.elim
  | cons v1 vs =>
    cases Es with
    | nil => exact ha.elim
    | cons E1 Es =>
      obtain ⟨h1, ha⟩ := ha
      cases vs with
      | nil => exact ha.elim
      | cons v2 vs =>
        cases Es with
        | nil => exact ha.elim
        | cons E2 Es =>
          obtain ⟨h2, ha⟩ := ha
          cases vs with
          | cons => exact ha.elim
          | nil =>
            cases Es with
            | cons => exact ha.elim
            | nil =>
              obtain ⟨v, hv, hc⟩ := h _ w v1 v2 E1 E2 h1 h2
              refine hc.mono ?_
              rintro e w' ⟨rfl, hev⟩
              refine ⟨[v], _, _, [[]], [[], []], rfl, ⟨rfl, rfl⟩, ⟨⟨[.sc v p], rfl, ?_, ⟨_, rfl, rfl⟩, rfl⟩, trivial⟩, ⟨⟨rfl, rfl⟩, ⟨rfl, rfl⟩, trivial⟩, List.Pairwise.nil, fun b o he => absurd he not_inE_nil, hev.mono fun _ _ _ h => h.elim⟩
              simp only [SatL, Sat, and_true]
              exact hv

theorem evo_below {w w' : World} (h : RowKit.Below w.heap.size w w') : Evo w w' (fun _ _ => False) where
  os := h.os
  tape := h.tape
  output := h.output
  size := h.size
  cell := fun b o hb _ => by
    unfold at_ World.cell?
    simp only [h.block b hb]
  obj := fun b hb _ => h.block b hb
  blk := fun b m ⟨c, e, fr, h1, h2, h3⟩ => ⟨c, e, fr, by rw [h.block b (Array.getElem?_eq_some_iff.1 h1).1]; exact h1, h2, h3⟩
end Go.Proofs.YtddfcajdelfikaaDoor.Vm
