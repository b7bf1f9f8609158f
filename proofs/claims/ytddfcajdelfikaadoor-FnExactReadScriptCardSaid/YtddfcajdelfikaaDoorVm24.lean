/- The rule of calls. -/
import Derived.Test.YtddfcajdelfikaaDoorVm23
set_option linter.unusedVariables false
set_option linter.unusedSimpArgs false
set_option linter.unusedSectionVars false
namespace Go.Proofs.YtddfcajdelfikaaDoor.Vm
open Go
open GV (absL extsL fzL)
open PV (frzL)

def calleeOf (st : St) : Operand → Option (FuncId × List PassR)
  | .func f => some (f, [])
  | .tmp t => match lk st.env t 0 with
    | some (.clo f caps) => match capsPass st caps with
      | some rs => some (f, rs)
      | none => none
    | _ => none
  | _ => none

section
variable {P : Program} {T : Tab} {Z : Nat → Nat → Prop} {w0 : World} {E0 : List Ext} {pins : List Pin} {gr : List GR} {a : Act} {w : World} {st : St}

theorem casesOk_append {w : World} {gr : List GR} : ∀ {vs vs' : List Value} {rs rs' : List PassR} {Es Es' : List (List Ext)}, CasesOk w gr vs rs Es → CasesOk w gr vs' rs' Es' → CasesOk w gr (vs ++ vs') (rs ++ rs') (Es ++ Es')
  | [], _, [], _, [], _, _, h => h
  | v :: vs, vs', r :: rs, rs', E :: Es, Es', h, h' => ⟨h.1, casesOk_append h.2 h'⟩
  | [], _, [], _, _ :: _, _, h, _ => h.elim
  | [], _, _ :: _, _, _, _, h, _ => h.elim
  | _ :: _, _, [], _, _, _, h, _ => h.elim
  | _ :: _, _, _ :: _, _, [], _, h, _ => h.elim

theorem argsOk_append {w : World} {O : Nat → Nat → Prop} : ∀ {vs vs' : List Value} {xs xs' : List PArg} {Es Es' : List (List Ext)}, ArgsOk w O vs xs Es → ArgsOk w O vs' xs' Es' → ArgsOk w O (vs ++ vs') (xs ++ xs') (Es ++ Es')
  | [], _, [], _, [], _, _, h => h
  | v :: vs, vs', r :: rs, rs', E :: Es, Es', h, h' => ⟨h.1, argsOk_append h.2 h'⟩
  | [], _, [], _, _ :: _, _, h, _ => h.elim
  | [], _, _ :: _, _, _, _, h, _ => h.elim
  | _ :: _, _, [], _, _, _, h, _ => h.elim
  | _ :: _, _, _ :: _, _, [], _, h, _ => h.elim

theorem frzOf_append : ∀ (rs rs' : List PassR), frzOf (rs ++ rs') = frzOf rs ++ frzOf rs'
  | [], _ => rfl
  | r :: rs, rs' => by simp only [List.cons_append, frzOf, frzOf_append rs rs', List.append_assoc]

theorem capsPass_ok (h : Rel Z w0 E0 pins gr a w st) : ∀ {cs : List Cap} {vs : List Value}, CapsOk Z w gr vs cs → ∀ {rs : List PassR}, capsPass st cs = some rs →
    ∃ Es, CasesOk w gr vs rs Es ∧ ∀ O2, (∀ b o, O2 b o → b < w.heap.size → OW Z gr b o) → (∀ k, k ∈ frzOf rs → ∀ R, R ∈ gr → R.key = k → ∀ b o, inE R.exts b o → ¬ O2 b o) → ArgsOk w O2 vs (rs.map PassR.x) Es
  | [], [], _, rs, hc => by simp only [capsPass] at hc; cases hc; exact ⟨[], trivial, fun _ _ _ => trivial⟩
  | c :: cs, v :: vs, hv, rs, hc => by
    simp only [capsPass] at hc
    split at hc
    · rename_i r k rs' h1 h2
      cases hc
      obtain ⟨Es, q1, q2⟩ := capsPass_ok h hv.2 h2
      refine ⟨[] :: Es, ⟨⟨rfl, trivial⟩, q1⟩, fun O2 ho hf => ⟨⟨rfl, capRow_ok h hv.1 h1 O2 ho (fun k' hk => hf k' ?_)⟩, q2 O2 ho (fun k' hk => hf k' ?_)⟩⟩
      · simp only [frzOf]; exact List.mem_append.2 (.inl hk)
      · simp only [frzOf]; exact List.mem_append.2 (.inr hk)
    · cases hc
  | [], _ :: _, hv, _, _ => hv.elim
  | _ :: _, [], hv, _, _ => hv.elim

theorem calleeOf_ok (h : Rel Z w0 E0 pins gr a w st) {x : Operand} {f : FuncId} {rs : List PassR} (hc : calleeOf st x = some (f, rs)) :
    ∃ vs Es, a.eval x = .func (.func f) #[] vs.toArray ∧ CasesOk w gr vs rs Es ∧ ∀ O2, (∀ b o, O2 b o → b < w.heap.size → OW Z gr b o) → (∀ k, k ∈ frzOf rs → ∀ R, R ∈ gr → R.key = k → ∀ b o, inE R.exts b o → ¬ O2 b o) → ArgsOk w O2 vs (rs.map PassR.x) Es := by
  unfold calleeOf at hc
  split at hc
  · cases hc
    exact ⟨[], [], rfl, trivial, fun _ _ _ => trivial⟩
  · rename_i t
    split at hc
    · rename_i f' caps hl
      split at hc
      · rename_i rs' hcp
        cases hc
        have := h.opv (x := .tmp t) hl
        obtain ⟨vs, hv, hcs⟩ := this
        obtain ⟨Es, q1, q2⟩ := capsPass_ok h hcs hcp
        exact ⟨vs, Es, hv, q1, q2⟩
      · cases hc
    · cases hc
  · cases hc

variable (hT : TabOk P T)
include hT

theorem passAll_ok (h : Rel Z w0 E0 pins gr a w st) : ∀ {ms : List Md} {xs : List Operand} {ts : List Nat} {rs : List PassR}, passAll T st ms xs ts = some rs →
    ∃ Es, CasesOk w gr (xs.map a.eval) rs Es ∧ ∀ O2, (∀ b o, O2 b o → b < w.heap.size → OW Z gr b o) → (∀ k, k ∈ frzOf rs → ∀ R, R ∈ gr → R.key = k → ∀ b o, inE R.exts b o → ¬ O2 b o) → ArgsOk w O2 (xs.map a.eval) (rs.map PassR.x) Es
  | [], [], [], rs, hp => by simp only [passAll] at hp; cases hp; exact ⟨[], trivial, fun _ _ _ => trivial⟩
  | m :: ms, x :: xs, t :: ts, rs, hp => by
    simp only [passAll] at hp
    split at hp
    · rename_i r rs' h1 h2
      cases hp
      obtain ⟨E, p1, p2⟩ := passOne_ok hT h h1
      obtain ⟨Es, q1, q2⟩ := passAll_ok h h2
      refine ⟨E :: Es, ⟨p1, q1⟩, fun O2 ho hf => ⟨p2 O2 ho (fun k' hk => hf k' ?_), q2 O2 ho (fun k' hk => hf k' ?_)⟩⟩
      · simp only [frzOf]; exact List.mem_append.2 (.inl hk)
      · simp only [frzOf]; exact List.mem_append.2 (.inr hk)
    · cases hp
  | [], [], _ :: _, _, hp => by cases hp
  | [], _ :: _, _, _, hp => by cases hp
  | _ :: _, [], _, _, hp => by cases hp
  | _ :: _, _ :: _, [], _, hp => by cases hp

/-- A call, by the callee's contract: what is to hold behind it is K. -/
theorem wpOp_call (h : Rel Z w0 E0 pins gr a w st) {ops : Array Oper} {i : Nat} {o : Oper} {d : Nat} {fop : Operand} {xs : Array Operand} {ts : Array TypeId} {f : FuncId} {crs rs : List PassR} {Q : List (Bool × List PV) → List (List PV) → Prop}
    (ho : ops[i]? = some o) (hop : o.op = .call ⟨.value fop, xs, ts⟩) (hd : o.dst = some d) (hg : evGuard st ops o.guard = some true) (hcal : calleeOf st fop = some (f, crs)) (ms : List Md)
    (hp : passAll T st ms xs.toList ts.toList = some rs) (hok : okPass (rs ++ crs) = true) (hgood : Good P f ((rs ++ crs).map PassR.x) Q)
    {K : Act → World → Prop} {K' : Exit → Act → World → Prop} (hk : ∀ rets outs, Q rets outs → ∃ st2, back st (rs ++ crs) d rets outs = some st2 ∧ ∀ gr' a' w', Rel Z w0 E0 pins gr' a' w' st2 → K a' w') : wpOp P ops K' i K a w := by
  obtain ⟨cvs, Es2, hv, hc2, ha2⟩ := calleeOf_ok h hcal
  obtain ⟨Es1, hc1, ha1⟩ := passAll_ok hT h hp
  have hc := casesOk_append hc1 hc2
  have hfrz := frzOf_append rs crs
  have hkeys := okPass_keys hok
  have hapE := cases_apart h hc hkeys.1
  have hEX := cases_inE h hc
  -- what the callee's frozen cells must avoid besides its own
  obtain ⟨Z2, hz1, hz2, hz3⟩ : ∃ Z2 : Nat → Nat → Prop, (∀ b o, Z2 b o → OW Z gr b o) ∧ (frzOf (rs ++ crs) = [] → ∀ b o, OW Z gr b o → Z2 b o) ∧ (frzOf (rs ++ crs) ≠ [] → ∀ b o, ¬ Z2 b o) := by
    by_cases hf : frzOf (rs ++ crs) = []
    · exact ⟨OW Z gr, fun _ _ h => h, fun _ _ _ h => h, fun h => absurd hf h⟩
    · exact ⟨fun _ _ => False, fun _ _ h => h.elim, fun h => absurd h hf, fun _ _ _ h => h⟩
  have ho2 : ∀ b o, OE Z2 (Es1 ++ Es2).flatten b o → b < w.heap.size → OW Z gr b o := by
    intro b o hb _
    rcases hb with hb | hb
    · obtain ⟨R, r1, _, r3⟩ := hEX b o hb
      exact .inl (inE_extsR.2 ⟨R, r1, r3⟩)
    · exact hz1 b o hb
  have hf2 : ∀ k, k ∈ frzOf (rs ++ crs) → ∀ R, R ∈ gr → R.key = k → ∀ b o, inE R.exts b o → ¬ OE Z2 (Es1 ++ Es2).flatten b o := by
    intro k hk R hR hrk b o he hb
    rcases hb with hb | hb
    · obtain ⟨S, r1, r2, r3⟩ := hEX b o hb
      exact h.root_apart hR r1 (fun e => hkeys.2 k hk (by rw [← hrk, ← e]; exact r2)) b o he r3
    · exact hz3 (fun e => by rw [e] at hk; cases hk) b o hb
  have hargs := argsOk_append (ha1 _ ho2 (fun k hk => hf2 k (by rw [hfrz]; exact List.mem_append.2 (.inl hk)))) (ha2 _ ho2 (fun k hk => hf2 k (by rw [hfrz]; exact List.mem_append.2 (.inr hk))))
  rw [← List.map_append] at hargs
  have hcall := hgood Z2 w _ _ hargs hapE
  have fin : ∀ {w' : World} {v : Value}, (∃ rv rets outs Er Eo, Ending.returned v = .returned (retV rv) ∧ Q rets outs ∧
      CompsOk w' (OE Z2 (Er.flatten ++ Eo.flatten)) rv rets Er ∧ OutsOk w' (OE Z2 (Er.flatten ++ Eo.flatten)) (xs.toList.map a.eval ++ cvs) ((rs ++ crs).map PassR.x) outs Eo ∧
      Apart (Er.flatten ++ Eo.flatten) ∧ (∀ b o, inE (Er.flatten ++ Eo.flatten) b o → b < w.heap.size → inE (Es1 ++ Es2).flatten b o) ∧ Evo w w' (inE (Es1 ++ Es2).flatten)) →
      K (a.put (some d) v) w' := by
    intro w' v ⟨rv, rets, outs, Er, Eo, e1, e2, e3, e4, e5, e6, e7⟩
    cases e1
    obtain ⟨st2, b1, b2⟩ := hk rets outs e2
    obtain ⟨gr', hr⟩ := call_ok h hc hok b1 e7 e3 e4 e5 e6 hz2
    exact b2 gr' _ w' hr
  unfold wpOp
  rw [ho]
  simp only []
  rw [evGuard_ok h hg]
  refine .inl ?_
  unfold Oper.wp
  have hex : (execOp a.eval o).run P w = (callFunc f (xs.toList.map a.eval ++ cvs).toArray).run P w := by
    unfold execOp
    rw [hop]
    simp only [resolve, hv, Deferred.ofValue, invoke, Sem.run_bind, Sem.run_pure, Result.andThen_ok]
    congr 2
    apply Array.ext'
    simp
  rw [hex]
  unfold CallsW at hcall
  split at hcall
  · rename_i f' as w1 he
    rw [he, Oper.upon_enter]
    refine Calls.mono hcall ?_
    intro e w' hR
    have hR' := hR
    obtain ⟨rv, rets, outs, Er, Eo, e1, _⟩ := hR
    subst e1
    rw [hd]
    exact fin hR'
  · rename_i v w1 he
    rw [he, Oper.upon_value, hd]
    exact fin hcall
  · exact hcall.elim
/-- A call, by the callee's contract. -/
theorem triOps_call {ops : Array Oper} {i : Nat} {l : List Nat} {o : Oper} {st : St} {Q' : St → Prop} {d : Nat} {fop : Operand} {xs : Array Operand} {ts : Array TypeId} {f : FuncId} {crs rs : List PassR} {Q : List (Bool × List PV) → List (List PV) → Prop}
    (ho : ops[i]? = some o) (hop : o.op = .call ⟨.value fop, xs, ts⟩) (hd : o.dst = some d) (hg : evGuard st ops o.guard = some true) (hcal : calleeOf st fop = some (f, crs)) (ms : List Md)
    (hp : passAll T st ms xs.toList ts.toList = some rs) (hok : okPass (rs ++ crs) = true) (hgood : Good P f ((rs ++ crs).map PassR.x) Q)
    (hk : ∀ rets outs, Q rets outs → ∃ st2, back st (rs ++ crs) d rets outs = some st2 ∧ TriOps P ops l st2 Q') : TriOps P ops (i :: l) st Q' := by
  intro Z w0 E0 pins gr a w h K hK
  rw [wpOps_cons]
  refine wpOp_call hT h ho hop hd hg hcal ms hp hok hgood ?_
  intro rets outs hq
  obtain ⟨st2, b1, b2⟩ := hk rets outs hq
  exact ⟨st2, b1, fun gr' a' w' hr => b2 Z w0 E0 pins gr' a' w' hr K hK⟩
end

end Go.Proofs.YtddfcajdelfikaaDoor.Vm
