/- A law's row out of its contract: no cell that was there is changed. -/
import Derived.Test.YtddfcajdelfikaaDoorVm35
import Derived.ChangeSame
import Derived.ChangeMaps5
import Derived.ProofKit
set_option linter.unusedVariables false
set_option linter.unusedSimpArgs false
set_option linter.unusedSectionVars false
namespace Go.Proofs.YtddfcajdelfikaaDoor.Vm
open Go Go.WideShapes Go.ChangeShapes Go.ChangeAt Go.RowKit
open GV (absL extsL fzL)

theorem keptBut_of_evo {W W' : World} {X : Nat → Nat → Prop} (h : Evo W W' X) (hX : ∀ b o, ¬ X b o) (may : MemPlace → Prop) : W.keptBut W' may := by
  refine ⟨h.os, h.output, fun i hi => ?_⟩
  rw [h.obj i hi (fun o => hX i o)]
  have e : W.heap[i]? = some W.heap[i] := Array.getElem?_eq_getElem hi
  rw [e]
  cases W.heap[i] with
  | cells c t fr => exact ⟨rfl, rfl, rfl, fun _ _ => rfl⟩
  | map es clock => exact .inr ⟨rfl, rfl⟩
  | _ => exact rfl

/-- What the call leaves, where no old cell was changed. -/
theorem post_of_evo {H : Type} {enc : TypeId × Value → H} {P : Program} {f : Func} {s : ChangeSpec} {apart fresh handsOn again : Bool} {W W' : World} {X : Nat → Nat → Prop} (h : Evo W W' X) (hX : ∀ b o, ¬ X b o) {args : Array Value} {v : Value} {ds gs : List (DataW H)} {before pa pv : List MemPlace}
    (hW : DataW.Whole enc P f.params.toList s.vars apart W args.toList ds gs before)
    (hres : ∀ (b : Nat) (sp : Nat → Bool) (hd : Bool), DataW.TrodAll enc P W' b sp hd f.resultTypes.toList (v.resultList f.resultTypes.size) (s.fn H (ds ++ gs)).results [])
    (hargs : ∀ sp : Nat → Bool, (∀ p ∈ before, sp p.block = true) → DataW.TrodAll enc P W' 0 sp true f.params.toList args.toList (s.fn H (ds ++ gs)).args pa)
    (hvars : ∀ sp : Nat → Bool, (∀ p ∈ before, sp p.block = true) → DataW.TrodVars enc P W' sp s.vars (s.fn H (ds ++ gs)).vars pv)
    (hps : before = pa ++ pv)
    (hok : ∀ (j : Nat) (t : TypeId) (r : Value), f.resultTypes[j]? = some t → (v.resultList f.resultTypes.size)[j]? = some r → Value.okWide P W' .any 0 t r) :
    s.post enc P f apart fresh handsOn again W args v W' := by
  have hold : ∀ p ∈ before, (fun b => decide (b < W.heap.size)) p.block = true := fun p hp => by simpa using hW.lt p hp
  have hlt : ∀ p ∈ before, p.block < W.heap.size := fun p hp => hW.lt p hp
  refine ⟨ds, gs, before, [], pa, pv, hW, hres _ _ _, hargs _ hold, hvars _ hold, keptBut_of_evo h hX _, fun _ => ?_⟩
  obtain ⟨_, _, _, _, _, hz, hn⟩ := hW
  refine ⟨hok, _, _, ([] ++ pa) ++ pv, ⟨[] ++ pa, pv, trodAll_append (hargs _ (fun _ _ => rfl)) (hres _ _ _), hvars _ (fun _ _ => rfl), rfl, ?_, ?_⟩, ?_⟩
  · intro b off hp
    have hm : MemPlace.cell b off ∈ before := by rw [hps]; simpa using hp
    have := hz b off hm
    simp only [World.frozen?] at this ⊢
    rw [h.obj b (hlt _ hm) (fun o => hX b o)]
    exact this
  · intro ha
    have := hn ha
    rw [hps] at this
    simpa using this
  · intro p hp _
    rw [hps]
    simpa using hp

/-- A law over one string. -/
theorem calls_string {P : Program} {f : FuncId} {fn : Func} {c : Code} (hf : P.funcs[f]? = some fn) (hname : (fn.name == "runtime.NumGoroutine") = false) (hb : fn.body = some c) {a : List UInt8} {r : Bool} (h : GoodD P f [.val false (ES.row false a)] [(false, EB.row false r)] [[]]) (W : World) (s : ByteArray) (hs : s.data.toList = a) :
    Calls P f #[.string s] W fun e W' => e = .returned (.bool r) ∧ Evo W W' (inE ([] : List Ext)) := by
  have hg := h (fun _ _ => False) W [.string s] [[]] ⟨⟨rfl, [.sc (.string s) (.str a)], rfl, ⟨trivial, trivial⟩, ⟨hs, trivial⟩, ⟨_, rfl, rfl⟩⟩, trivial⟩ List.Pairwise.nil
  rw [callsW_iff hf hname hb] at hg
  refine Calls.mono hg fun e w' ⟨rv, rets, outs, Er, Eo, he, ⟨hr, ho⟩, hc, _, _, _, hev⟩ => ⟨?_, by simpa using hev⟩
  subst hr he
  match rv, Er, hc with
  | [v], [E], hc =>
    obtain ⟨⟨gs, h1, h2, ⟨g, rfl, rfl⟩, h4⟩, _⟩ := hc
    match g, h1, h2 with
    | .sc v p, h1, h2 =>
      obtain rfl : p = .bool r := by simpa [GV.absL, GV.abs, EB, Enc.row] using h1
      have h3 : ScOk v (.bool r) := h2.1
      match v, h3 with
      | .bool b, h3 =>
        obtain rfl : b = r := h3
        rfl
    | .sl .., h1, _ => simp [GV.absL, GV.abs, EB, Enc.row] at h1
  | [_], _ :: _ :: _, hc => exact hc.2.elim
  | [_], [], hc => exact hc.elim
  | [], _, hc => cases ‹List (List Ext)› <;> exact hc.elim
  | _ :: _ :: _, [], hc => exact hc.elim
  | _ :: _ :: _, _ :: _, hc => exact hc.2.elim

end Go.Proofs.YtddfcajdelfikaaDoor.Vm
