/- From a body's proof to the function's contract. -/
import Derived.Test.YtddfcajdelfikaaDoorVm14
set_option linter.unusedVariables false
set_option linter.unusedSimpArgs false
set_option linter.unusedSectionVars false
namespace Go.Proofs.YtddfcajdelfikaaDoor.Vm
open Go
open GV (absL extsL fzL)
open PV (frzL)

/-- A result variable's value. -/
def resSem (a : Act) : ResultVar → Sem Value
  | .tmp t => Sem.pure (a.tmps.getD t undef)
  | .cell t ty => do loadVar ty (← asAddr (a.tmps.getD t undef))

section
variable {P : Program} {T : Tab} (hT : TabOk P T) {Z : Nat → Nat → Prop} {w0 : World} {E0 : List Ext} {pins : List Pin} {gr0 : List GR} {a : Act} {w : World} {st0 : St}
include hT

theorem outVars_ok (h : Rel Z w0 E0 pins gr0 a w st0) : ∀ {xs : List ResultVar} {st st1 : St} {gr : List GR} {rets : List (Bool × List PV)}, outVars T st xs = some (st1, rets) →
    (∀ e, e ∈ st.env → e ∈ st0.env) → st.roots = gr.map GR.root → (∀ R, R ∈ gr → R ∈ gr0) → (gr.map GR.key).Nodup →
    ∃ gr1 vs Er D, st1.roots = gr1.map GR.root ∧ (∀ R, R ∈ gr1 → R ∈ gr) ∧ (gr1.map GR.key).Nodup ∧ st1.pk = st.pk ∧
      (xs.mapM (resSem a)).run P w = .ok vs w ∧ CompsOk w (OW Z gr0) vs rets Er ∧ (extsR gr).Perm (Er.flatten ++ extsR gr1 ++ D)
  | [], st, st1, gr, rets, ho, henv, hr, hs, hk => by
    simp only [outVars] at ho
    cases ho
    exact ⟨gr, [], [], [], hr, fun _ h => h, hk, rfl, rfl, trivial, by simp⟩
  | x :: xs, st, st1, gr, rets, ho, henv, hr, hs, hk => by
    simp only [outVars] at ho
    split at ho
    · rename_i st2 r h2
      split at ho
      · rename_i st3 rs h3
        cases ho
        obtain ⟨agg, row⟩ := r
        obtain ⟨gr2, v, gs, D, q1, q2, q3, q4, _, q5, q6, q7, q8, q9, q10⟩ := outVar_ok hT h h2 henv hr hs hk
        obtain ⟨gr3, vs, Er, D3, p1, p2, p3, p4, p5, p6, p7⟩ := outVars_ok h (xs := xs) h3 q2 q1 (fun R hR => hs R (q3 R hR)) q4
        refine ⟨gr3, v :: vs, extsL gs :: Er, D3 ++ D, p1, fun R hR => q3 R (p2 R hR), p3, p4.trans q5, ?_, ⟨⟨gs, q7, q8, q9, rfl⟩, p6⟩, ?_⟩
        · have : (resSem a x).run P w = .ok v w := by
            cases x with
            | tmp t => exact q6
            | cell t ty => exact q6
          simp only [List.mapM_cons, Sem.run_bind, this, Result.andThen_ok, p5]
          rfl
        · refine q10.trans ?_
          simp only [List.flatten_cons, List.append_assoc]
          refine List.Perm.append_left _ ?_
          have := p7.append_right D
          simp only [List.append_assoc] at this
          exact this
      · cases ho
    · cases ho
end

theorem argOuts_ok {w : World} {O : Nat → Nat → Prop} {grA : List GR} {st : St} (hk : (grA.map GR.key).Nodup) (hsat : ∀ R, R ∈ grA → SatL w O R.row) (hmem : ∀ R, R ∈ grA → Mem w R.loc R.row) (hr : st.roots = grA.map GR.root) :
    ∀ {i : Nat} {vs : List Value} {xs : List PArg} {ps : List (List Pin)} {outs : List (List PV)} {gr1 : List GR}, argOuts st i xs = some outs → PinsFor i vs xs ps → (∀ p, p ∈ ps.flatten → PinOk grA p) →
    (∀ R, R ∈ gr1 → R ∈ grA) → (∀ R, R ∈ grA → i ≤ R.key.1 → R ∈ gr1) → (gr1.map GR.key).Nodup → ∃ Eo D, OutsOk w O vs xs outs Eo ∧ (extsR gr1).Perm (Eo.flatten ++ D)
  | i, [], [], [], outs, gr1, ho, _, _, _, _, _ => by
    simp only [argOuts] at ho
    cases ho
    exact ⟨[], extsR gr1, trivial, by simp⟩
  | i, v :: vs, x :: xs, p :: ps, outs, gr1, ho, hp, hpin, hs1, hs2, hk1 => by
    simp only [argOuts] at ho
    split at ho
    · rename_i o os h1 h2
      cases ho
      have rest := fun (gr' : List GR) a b c => argOuts_ok hk hsat hmem hr (i := i + 1) (gr1 := gr') h2 hp.2 (fun q hq => hpin q (by simp only [List.flatten_cons, List.mem_append]; exact .inr hq)) a b c
      have hroot : ∀ {k : Key} {R : Root}, rlk st.roots k = some R → ∃ S, S ∈ grA ∧ S.key = k ∧ R = S.root := by
        intro k R hR
        obtain ⟨q1, q2⟩ := rlk_mem hR
        rw [hr] at q1
        obtain ⟨S, hS, rfl⟩ := List.mem_map.1 q1
        exact ⟨S, hS, q2, rfl⟩
      have plain : o = [] → OutOk w O v x [] [] → ∃ Eo D, OutsOk w O (v :: vs) (x :: xs) (o :: os) Eo ∧ (extsR gr1).Perm (Eo.flatten ++ D) := by
        intro e1 e2
        obtain ⟨Eo, D, q1, q2⟩ := rest gr1 hs1 (fun R hR hi => hs2 R hR (by omega)) hk1
        exact ⟨[] :: Eo, D, ⟨by rw [e1]; exact e2, q1⟩, by simpa using q2⟩
      have rooted : ∀ {S : GR}, S ∈ grA → S.key = (i, 0) → OutOk w O v x o S.exts → ∃ Eo D, OutsOk w O (v :: vs) (x :: xs) (o :: os) Eo ∧ (extsR gr1).Perm (Eo.flatten ++ D) := by
        intro S hS hkS e2
        have hS1 : S ∈ gr1 := hs2 S hS (by rw [hkS]; exact Nat.le_refl _)
        obtain ⟨Eo, D, q1, q2⟩ := rest (gdel gr1 (i, 0)) (fun R hR => hs1 R (mem_gdel.1 hR).1)
          (fun R hR hi => mem_gdel.2 ⟨hs2 R hR (by omega), fun e => by rw [e] at hi; exact absurd hi (by simp)⟩) (gdel_keys hk1).1
        refine ⟨S.exts :: Eo, D, ⟨e2, q1⟩, ?_⟩
        have := gdel_perm_of hk1 hS1
        rw [hkS] at this
        refine this.trans ?_
        simp only [List.flatten_cons, List.append_assoc]
        exact q2.append_left _
      cases x with
      | val => simp only [argOut] at h1; cases h1; exact plain rfl ⟨rfl, rfl⟩
      | own => simp only [argOut] at h1; cases h1; exact plain rfl ⟨rfl, rfl⟩
      | fptr => simp only [argOut] at h1; cases h1; exact plain rfl ⟨rfl, rfl⟩
      | clo => simp only [argOut] at h1; cases h1; exact plain rfl ⟨rfl, rfl⟩
      | ino agg row =>
        simp only [argOut] at h1
        split at h1
        · rename_i R hR
          cases h1
          obtain ⟨S, hS, hkS, rfl⟩ := hroot hR
          obtain ⟨vals, e1, e2⟩ := hp.1
          have hpo := hpin ⟨(i, 0), none, vals⟩ (by simp [e1]) S hS hkS
          obtain ⟨l1, l2, l3⟩ := hpo
          have l1 : S.loc = none := l1
          refine rooted hS hkS ⟨S.row, rfl, hsat S hS, ?_, by simp [GR.exts, GR.base, l1]⟩
          have l2 := l2 rfl
          cases agg with
          | true => simp only [Packed]; rw [l2]; exact e2
          | false =>
            simp only [] at e2 l2
            rw [e2] at l2
            rw [List.map_eq_singleton_iff] at l2
            obtain ⟨g, l2, l4⟩ := l2
            exact ⟨g, l2, l4.symm⟩
        · cases h1
      | ref row =>
        simp only [argOut] at h1
        split at h1
        · rename_i R hR
          cases h1
          obtain ⟨S, hS, hkS, rfl⟩ := hroot hR
          obtain ⟨b, o, vals, e1, e2, e3⟩ := hp.1
          have hpo := hpin ⟨(i, 0), some (b, o), vals⟩ (by simp [e1]) S hS hkS
          obtain ⟨l1, l2, l3⟩ := hpo
          have l1 : S.loc = some (b, o) := l1
          have l3 : S.row.length = vals.length := l3
          have hm := hmem S hS
          rw [l1] at hm
          exact rooted hS hkS ⟨b, o, S.row, e2, rfl, by show (absL S.row).length = _; rw [absL_length, l3, e3], hsat S hS, hm, by simp [GR.exts, GR.base, l1]⟩
        · cases h1
    · cases ho
  | _, [], [], _ :: _, _, _, _, h, _, _, _, _ => h.elim
  | _, [], _ :: _, _, _, _, _, h, _, _, _, _ => h.elim
  | _, _ :: _, [], _, _, _, _, h, _, _, _, _ => h.elim
  | _, _ :: _, _ :: _, [], _, _, _, h, _, _, _, _ => h.elim

theorem argsOk_length {w : World} {O : Nat → Nat → Prop} : ∀ {vs : List Value} {xs : List PArg} {Es : List (List Ext)}, ArgsOk w O vs xs Es → vs.length = xs.length
  | [], [], [], _ => rfl
  | v :: vs, x :: xs, E :: Es, h => by simp only [List.length_cons, argsOk_length h.2]
  | [], [], _ :: _, h => h.elim
  | [], _ :: _, _, h => h.elim
  | _ :: _, [], _, h => h.elim
  | _ :: _, _ :: _, [], h => h.elim

theorem retV_eq (vs : List Value) : retV vs = (if h : vs.toArray.size = 1 then vs.toArray[0] else .tuple vs.toArray) := by
  match vs with
  | [] => rfl
  | [v] => rfl
  | _ :: _ :: _ => rfl

theorem nodup_uniq {gr : List GR} (h : (gr.map GR.key).Nodup) {R S : GR} (hR : R ∈ gr) (hS : S ∈ gr) (hk : R.key = S.key) : R = S := by
  induction gr with
  | nil => cases hR
  | cons T gr ih =>
    simp only [List.map_cons, List.nodup_cons, List.mem_map, not_exists, not_and] at h
    rcases List.mem_cons.1 hR with e1 | e1 <;> rcases List.mem_cons.1 hS with e2 | e2
    · rw [e1, e2]
    · rw [e1] at hk; exact absurd hk.symm (h.1 S e2)
    · rw [e2] at hk; exact absurd hk (h.1 R e1)
    · exact ih h.2 e1 e2

/-- A function's contract by its body. -/
theorem good_of_body {P : Program} {T : Tab} (hT : TabOk P T) {f : FuncId} {fn : Func} {c : Code} {nt : Nat} {args : List PArg} {Q : List (Bool × List PV) → List (List PV) → Prop}
    (hf : P.funcs[f]? = some fn) (hname : (fn.name == "runtime.NumGoroutine") = false) (hb : fn.body = some c) (hn : args.length + (fn.ntmps - args.length) = nt) (hbody : Tri P c (start nt args) (EndsIn T fn.results.toList args Q)) : Good P f args Q := by
  intro Z w vs Es hargs hap
  have hlen := argsOk_length hargs
  obtain ⟨gr, ps, s1, s2, s3, s4, s5, s6, s7, s8⟩ := start_ok (Z := Z) (i := 0) hargs
  have hI : inE (extsR gr) = inE Es.flatten := by rw [s2]
  have hO : OW Z gr = OE Z Es.flatten := by funext b o; simp only [OW, OE, hI]
  refine (callsW_iff hf hname hb).2 (calls_of_wp hf hb ?_)
  have hrel : Rel Z w Es.flatten ps.flatten gr { tmps := vs.toArray ++ Array.replicate (fn.ntmps - vs.toArray.size) undef, defers := [] } w (start nt args) := {
    roots := s1
    keys := s4
    apart := by rw [s2]; exact hap
    sat := fun R hR => by rw [hO]; exact (s5 R hR).1
    mem := fun R hR => (s5 R hR).2.1
    blk := fun R hR => (s5 R hR).2.2
    own := fun b o h _ => by rw [hI] at h; exact h
    evo := Evo.refl w _
    pin := fun p hp => by
      obtain ⟨_, R, hR, e1, e2, e3⟩ := s7 p hp
      intro R' hR' hk
      obtain rfl := nodup_uniq s4 hR hR' (e1.trans hk.symm)
      exact ⟨e2, fun _ => e3, by rw [← e3, List.length_map]⟩
    pk := fun p hp => (s7 p hp).1
    env := fun e he => by
      obtain ⟨q1, j, v, q2, q3, q4⟩ := s8 gr (fun R h => h) (fun b o => by rw [hO]) e he
      obtain ⟨⟨t, c⟩, tv⟩ := e
      simp only [Nat.zero_add] at q1 q2
      subst q1 q2
      have hj : t < vs.length := by
        rw [List.getElem?_eq_some_iff] at q3
        exact q3.1
      refine ⟨by simp only [Array.size_append, List.size_toArray]; omega, ?_⟩
      have : ((vs.toArray ++ Array.replicate (fn.ntmps - vs.toArray.size) undef : Array Value).getD t undef) = v := by
        rw [Array.getD_eq_getD_getElem?, Array.getElem?_append_left (by simpa using hj), List.getElem?_toArray, q3]
        rfl
      rw [this]
      exact q4
    size := by simp only [Array.size_append, List.size_toArray, Array.size_replicate, hlen]; exact hn
    defers := rfl }
  refine wp_mono (hbody Z w Es.flatten ps.flatten gr _ w hrel) ?_
  intro e a' w' ⟨gr', st', h', hend⟩
  have fin : ∀ {st1 rets outs}, outVars T st' fn.results.toList = some (st1, rets) → argOuts st1 0 args = some outs → Q rets outs →
      a'.defers = [] ∧ ∃ v, (results fn a'.tmps).run P w' = .ok v w' ∧ ∃ rv rets outs Er Eo, Ending.returned v = .returned (retV rv) ∧ Q rets outs ∧
      CompsOk w' (OE Z (Er.flatten ++ Eo.flatten)) rv rets Er ∧ OutsOk w' (OE Z (Er.flatten ++ Eo.flatten)) vs args outs Eo ∧
      Apart (Er.flatten ++ Eo.flatten) ∧ (∀ b o, inE (Er.flatten ++ Eo.flatten) b o → b < w.heap.size → inE Es.flatten b o) ∧ Evo w w' (inE Es.flatten) := by
    intro st1 rets outs q1 q2 q3
    refine ⟨h'.defers, ?_⟩
    obtain ⟨gr1, rv, Er, D, p1, p2, p3, p4, p5, p6, p7⟩ := outVars_ok hT h' q1 (fun _ h => h) h'.roots (fun _ h => h) h'.keys
    have hpin' : ∀ p, p ∈ ps.flatten → PinOk gr1 p := fun p hp R hR hk => h'.pin p hp R (p2 R hR) hk
    obtain ⟨Eo, D2, r1, r2⟩ := argOuts_ok (O := OW Z gr') (w := w') p3 (fun R hR => h'.sat R (p2 R hR)) (fun R hR => h'.mem R (p2 R hR)) p1 q2 s6 hpin' (fun _ h => h) (fun _ h _ => h) p3
    have hperm : (extsR gr').Perm ((Er.flatten ++ Eo.flatten) ++ (D2 ++ D)) := by
      refine p7.trans ?_
      simp only [List.append_assoc]
      refine List.Perm.append_left _ ?_
      have := r2.append_right D
      simp only [List.append_assoc] at this
      exact this
    have hin : ∀ b o, inE (Er.flatten ++ Eo.flatten) b o → inE (extsR gr') b o := fun b o hb => (inE_perm hperm).2 (inE_append.2 (.inl hb))
    refine ⟨retV rv, ?_, rv, rets, outs, Er, Eo, rfl, q3, p6.less (fun b o hb _ => hb.imp (hin b o) id), r1.less (fun b o hb _ => hb.imp (hin b o) id), (Apart.append.1 (h'.apart.perm hperm)).1, fun b o hb hlt => h'.own b o (hin b o hb) hlt, h'.evo⟩
    have hm : (fn.results.mapM (resSem a')).run P w' = .ok rv.toArray w' := by
      have e : fn.results.mapM (resSem a') = List.toArray <$> fn.results.toList.mapM (resSem a') := by
        rw [Array.mapM_eq_mapM_toList]
      rw [e]
      rw [map_eq_pure_bind, Sem.run_bind, p5]
      rfl
    have e2 : results fn a'.tmps = (do
        let us ← fn.results.mapM (resSem a')
        pure (if h : us.size = 1 then us[0] else .tuple us) : Sem Value) := by
      unfold results
      refine congrArg (fun F => (fn.results.mapM F >>= fun us => (pure (if h : us.size = 1 then us[0] else Value.tuple us) : Sem Value))) ?_
      funext x
      cases x with
      | tmp t => rfl
      | cell t ty => rfl
    rw [e2, Sem.run_bind, hm, retV_eq]
    rfl
  cases e with
  | normal =>
    obtain ⟨st1, rets, outs, q1, q2, q3⟩ := hend
    exact fin q1 q2 q3
  | ret =>
    obtain ⟨st1, rets, outs, q1, q2, q3⟩ := hend
    exact fin q1 q2 q3
  | exit id => exact hend.elim
  | goto l => exact hend.elim
  | panic ch => exact hend.elim
  | outgrown => exact hend.elim

end Go.Proofs.YtddfcajdelfikaaDoor.Vm
