/- Regions that draw their order. -/
import Derived.Test.YtddfcajdelfikaaDoorVm26
import Derived.Orders
import Derived.KernelRfl
set_option linter.unusedVariables false
set_option linter.unusedSimpArgs false
set_option linter.unusedSectionVars false
namespace Go.Proofs.YtddfcajdelfikaaDoor.Vm
open Go
open GV (absL extsL fzL)

/-! ### what is told of plain values alone -/

def TV.flat : TV → Bool
  | .val _ row => flatRow row
  | .grd _ tv => tv.flat
  | _ => false

def flatE : List (Key × TV) → List (Key × TV)
  | [] => []
  | e :: r => bif e.2.flat then e :: flatE r else flatE r

def St.flat (st : St) : St := ⟨flatE st.env, [], st.nt, []⟩

theorem mem_flatE : ∀ {env : List (Key × TV)} {e : Key × TV}, e ∈ flatE env → e ∈ env ∧ e.2.flat = true
  | [], _, h => by cases h
  | x :: r, e, h => by
    simp only [flatE] at h
    cases hx : x.2.flat with
    | true =>
      rw [hx] at h
      rcases List.mem_cons.1 h with rfl | h
      · exact ⟨List.mem_cons_self, hx⟩
      · obtain ⟨h1, h2⟩ := mem_flatE h; exact ⟨List.mem_cons_of_mem _ h1, h2⟩
    | false => rw [hx] at h; obtain ⟨h1, h2⟩ := mem_flatE h; exact ⟨List.mem_cons_of_mem _ h1, h2⟩

theorem flat_sat {w w' : World} {O O' : Nat → Nat → Prop} : ∀ {gs : List GV}, SatL w O gs → flatRow (absL gs) = true → SatL w' O' gs
  | [], _, _ => trivial
  | g :: gs, h, hf => by
    simp only [SatL] at h ⊢
    simp only [GV.absL, flatRow, Bool.and_eq_true] at hf
    refine ⟨?_, flat_sat h.2 hf.2⟩
    cases g with
    | sc v p => exact h.1
    | sl => simp [GV.abs, PV.isSc] at hf

theorem flat_vals {w w' : World} {O O' : Nat → Nat → Prop} : ∀ {gs gs' : List GV}, SatL w O gs → SatL w' O' gs' → absL gs = absL gs' → flatRow (absL gs) = true → gs.map GV.val = gs'.map GV.val
  | [], [], _, _, _, _ => rfl
  | [], _ :: _, _, _, h, _ => by simp [GV.absL] at h
  | _ :: _, [], _, _, h, _ => by simp [GV.absL] at h
  | g :: gs, g' :: gs', h, h', he, hf => by
    simp only [SatL] at h h'
    simp only [GV.absL, List.cons.injEq] at he
    simp only [GV.absL, flatRow, Bool.and_eq_true] at hf
    simp only [List.map_cons, flat_vals h.2 h'.2 he.2 hf.2, List.cons.injEq, and_true]
    have hs := hf.1
    cases hg : g.abs with
    | int k n => rw [sat_int h.1 hg, sat_int h'.1 (he.1 ▸ hg)]
    | bool b => rw [sat_bool h.1 hg, sat_bool h'.1 (he.1 ▸ hg)]
    | str s => rw [sat_str h.1 hg, sat_str h'.1 (he.1 ▸ hg)]
    | sl => rw [hg] at hs; simp [PV.isSc] at hs
    | dead => rw [hg] at hs; simp [PV.isSc] at hs

theorem tv_flat {Z Z' : Nat → Nat → Prop} {w w' : World} {gr gr' : List GR} {v : Value} : ∀ {tv : TV}, tv.flat = true → TVOk Z w gr v tv → TVOk Z' w' gr' v tv
  | .val agg row, hf, h => by
    obtain ⟨gs, rfl, h2, h3, h4⟩ := h
    exact ⟨gs, rfl, h2, flat_sat h3 hf, h4⟩
  | .grd g tv, hf, h => ⟨fun hg => tv_flat (tv := tv) hf (h.1 hg), h.2⟩
  | .nil, hf, _ => by cases hf
  | .adr .., hf, _ => by cases hf
  | .view .., hf, _ => by cases hf
  | .win .., hf, _ => by cases hf
  | .sh .., hf, _ => by cases hf
  | .fadr _, hf, _ => by cases hf
  | .clo .., hf, _ => by cases hf

theorem packed_det {agg : Bool} {gs gs' : List GV} {v v' : Value} (h : Packed agg gs v) (h' : Packed agg gs' v') (he : gs.map GV.val = gs'.map GV.val) : v = v' := by
  cases agg with
  | true => simp only [Packed] at h h'; rw [h, h', he]
  | false =>
    obtain ⟨g, rfl, rfl⟩ := h
    obtain ⟨g', rfl, rfl⟩ := h'
    simpa using he

/-- A plain row has one value. -/
theorem tv_det {Z Z' : Nat → Nat → Prop} {w w' : World} {gr gr' : List GR} {v v' : Value} : ∀ {tv : TV}, tv.flat = true → TVOk Z w gr v tv → TVOk Z' w' gr' v' tv → v = v'
  | .val agg row, hf, h, h' => by
    obtain ⟨gs, h1, h2, h3, h4⟩ := h
    obtain ⟨gs', h1', h2', h3', h4'⟩ := h'
    exact packed_det h4 h4' (flat_vals h3 h3' (by rw [h1, h1']) (by rw [h1]; exact hf))
  | .grd g tv, hf, h, h' => by
    cases g with
    | true => exact tv_det (tv := tv) hf (h.1 rfl) (h'.1 rfl)
    | false => rw [h.2 rfl, h'.2 rfl]
  | .nil, hf, _, _ => by cases hf
  | .adr .., hf, _, _ => by cases hf
  | .view .., hf, _, _ => by cases hf
  | .win .., hf, _, _ => by cases hf
  | .sh .., hf, _, _ => by cases hf
  | .fadr _, hf, _, _ => by cases hf
  | .clo .., hf, _, _ => by cases hf

section
variable {Z : Nat → Nat → Prop} {w0 : World} {E0 : List Ext} {pins : List Pin} {gr : List GR} {a : Act} {w : World} {st : St} {P : Program} {T : Tab}

theorem Rel.flat (h : Rel Z w0 E0 pins gr a w st) (w' : World) : Rel (fun _ _ => False) w' [] [] [] a w' st.flat where
  roots := rfl
  keys := List.nodup_nil
  apart := List.Pairwise.nil
  sat := fun R hR => by cases hR
  mem := fun R hR => by cases hR
  blk := fun R hR => by cases hR
  own := fun b o hb => absurd hb not_inE_nil
  evo := Evo.refl w' _
  pin := fun p hp => by cases hp
  pk := fun p hp => by cases hp
  env := fun e he => by
    obtain ⟨h1, h2⟩ := mem_flatE he
    have := h.env e h1
    obtain ⟨⟨t, i⟩, tv⟩ := e
    cases i with
    | zero => exact ⟨this.1, tv_flat h2 this.2⟩
    | succ i =>
      obtain ⟨q1, vs, v, q2, q3, q4⟩ := this
      exact ⟨q1, vs, v, q2, q3, tv_flat h2 q4⟩
  size := h.size
  defers := h.defers

/-- The draw itself changes nothing that a state tells. -/
theorem Rel.drawn (h : Rel Z w0 E0 pins gr a w st) (n : Nat) : Rel Z w0 E0 pins gr a { w with drawn := n } st := by
  have hE : Evo w { w with drawn := n } (fun _ _ => False) := ⟨rfl, rfl, rfl, Nat.le_refl _, fun _ _ _ _ => rfl, fun _ _ _ => rfl, fun _ _ h => h⟩
  have := h.renew (gr' := gr) hE (fun _ _ h => h.elim) h.apart (fun _ _ h _ => h) h.keys (fun R hR => .inl ⟨hR, fun _ _ _ h => h⟩) h.pin (env' := st.env) (fun e he => ⟨he, KeepsTV.of_sub (fun R h => h) e.2⟩)
  rw [← h.roots] at this
  exact this
end

/-! ### the rules -/

def NormQ (Z : Nat → Nat → Prop) (w0 : World) (E0 : List Ext) (pins : List Pin) (Q : St → Prop) : Exit → Act → World → Prop
  | .normal, a, w => ∃ gr st, Rel Z w0 E0 pins gr a w st ∧ Q st
  | _, _, _ => False

/-- Operations that are not yet listed, in any order. -/
def RunAny (P : Program) (ops : Array Oper) (fuel : Nat) (listed : Array Bool) (st : St) (Q : St → Prop) : Prop :=
  ∀ Z w0 E0 pins gr a w, Rel Z w0 E0 pins gr a w st → wpAny P .any ops (NormQ Z w0 E0 pins Q) fuel listed a w

section
variable {P : Program} {T : Tab} {ops : Array Oper} {st st' : St} {Q : St → Prop} {fuel i : Nat} {listed : Array Bool}

theorem tri_draw {id : Nat} {Q : Exit → St → Prop} (hm : P.follows .mixedOrders = true) (h : RunAny P ops ops.size (Array.replicate ops.size false) st (Q .normal)) : Tri P (.region id ops true) st Q := by
  intro Z w0 E0 pins gr a w hr
  refine wp_mono (wp_region_any hm (h Z w0 E0 pins gr a _ (hr.drawn _))) ?_
  intro e a' w' hq
  cases e with
  | normal => exact hq
  | exit id => exact hq.elim
  | goto l => exact hq.elim
  | ret => exact hq.elim
  | panic ch => exact hq.elim
  | outgrown => exact hq.elim

theorem any_done (hr : Region.ready .any ops listed = []) (h : Q st) : RunAny P ops fuel listed st Q :=
  fun Z w0 E0 pins gr a w hrel => wpAny_done hr ⟨gr, st, hrel, h⟩ fuel

/-- A move goes first. -/
theorem any_move {o : Oper} {x : Operand} {d : Nat} {tv : TV} {G : Bool} (ho : ops[i]? = some o) (hop : o.op = .move x) (hd : o.dst = some d) (hs : Region.noSelect ops = true) (hf : Region.free .any ops listed i = true)
    (hr : (Region.ready .any ops listed).contains i = true) (hg : evGuardL st ops.toList o.guard = some G) (htv : st.opg G x = some tv) (hp : st.put? d (isNoneG o.guard) G tv = some st')
    (h : RunAny P ops fuel (listed.setIfInBounds i true) st' Q) : RunAny P ops (fuel + 1) listed st Q := by
  intro Z w0 E0 pins gr a w hrel
  rw [evGuardL_eq] at hg
  have hw := evGuard_ok hrel hg
  have hQ : ∀ v, ∀ c (a : Act) w, NormQ Z w0 E0 pins Q (.panic c) (a.put o.dst v) w → NormQ Z w0 E0 pins Q (.panic c) a w := fun _ _ _ _ h => h.elim
  unfold St.put? at hp
  cases G with
  | true =>
    have ht := hrel.opg htv rfl
    refine wpAny_take ho hs hf hr (hQ (a.eval x)) (.inl ⟨hw, fun w' => ?_⟩) ?_
    · unfold execOp; rw [hop]; rfl
    · rw [hd]
      refine h Z w0 E0 pins gr _ w (hrel.gput ?_ hp)
      cases isNoneG o.guard with
      | true => exact ht
      | false => exact ⟨fun _ => ht, fun h => by cases h⟩
  | false =>
    have hn : isNoneG o.guard = false := by
      cases hgd : o.guard with
      | none => rw [hgd] at hg; cases hg
      | some _ => rfl
    rw [hn] at hp
    refine wpAny_take ho hs hf hr (hQ undef) (.inr ⟨hw, rfl⟩) ?_
    rw [hd]
    have ht : TVOk Z w gr undef (.grd false tv) := ⟨fun h => (by cases h), fun _ => rfl⟩
    exact h Z w0 E0 pins gr _ w (hrel.gput ht hp)

/-- An operation on plain values goes first. -/
theorem any_plain (hT : TabOk P T) {o : Oper} {d : Nat} {tv : TV} {G : Bool} (ho : ops[i]? = some o) (hd : o.dst = some d) (hs : Region.noSelect ops = true) (hf : Region.free .any ops listed i = true)
    (hr : (Region.ready .any ops listed).contains i = true) (hg : evGuardL st ops.toList o.guard = some G) (htv : evQ T st.flat G o.op = some tv) (hfl : tv.flat = true) (hp : st.put? d (isNoneG o.guard) G tv = some st')
    (h : RunAny P ops fuel (listed.setIfInBounds i true) st' Q) : RunAny P ops (fuel + 1) listed st Q := by
  intro Z w0 E0 pins gr a w hrel
  rw [evGuardL_eq] at hg
  have hw := evGuard_ok hrel hg
  have hQ : ∀ v, ∀ c (a : Act) w, NormQ Z w0 E0 pins Q (.panic c) (a.put o.dst v) w → NormQ Z w0 E0 pins Q (.panic c) a w := fun _ _ _ _ h => h.elim
  unfold St.put? at hp
  cases G with
  | true =>
    obtain ⟨v, h1, h2⟩ := evQ_ok hT (hrel.flat w) rfl htv
    refine wpAny_take ho hs hf hr (hQ v) (.inl ⟨hw, fun w' => ?_⟩) ?_
    · obtain ⟨v', h1', h2'⟩ := evQ_ok hT (hrel.flat w') rfl htv
      rw [tv_det hfl h2 h2']
      exact h1'
    · rw [hd]
      have ht : TVOk Z w gr v tv := tv_flat hfl h2
      refine h Z w0 E0 pins gr _ w (hrel.gput ?_ hp)
      cases isNoneG o.guard with
      | true => exact ht
      | false => exact ⟨fun _ => ht, fun h => by cases h⟩
  | false =>
    have hn : isNoneG o.guard = false := by
      cases hgd : o.guard with
      | none => rw [hgd] at hg; cases hg
      | some _ => rfl
    rw [hn] at hp
    refine wpAny_take ho hs hf hr (hQ undef) (.inr ⟨hw, rfl⟩) ?_
    rw [hd]
    have ht : TVOk Z w gr undef (.grd false tv) := ⟨fun h => (by cases h), fun _ => rfl⟩
    exact h Z w0 E0 pins gr _ w (hrel.gput ht hp)

/-- The one operation that is ready. -/
theorem any_one (hT : TabOk P T) {o : Oper} (hr : Region.ready .any ops listed = [i]) (ho : ops[i]? = some o) (he : evOpG T st (evGuardL st ops.toList o.guard) o = some st')
    (h : RunAny P ops fuel (listed.setIfInBounds i true) st' Q) : RunAny P ops (fuel + 1) listed st Q := by
  intro Z w0 E0 pins gr a w hrel
  rw [evOpG_eq] at he
  refine wpAny_all hr (by simp) ?_
  intro j hj
  rw [List.mem_singleton] at hj
  subst hj
  exact evOp_ok hT hrel ho he fun gr' a' w' hr' => h Z w0 E0 pins gr' a' w' hr'

/-- The one operation that is ready: a call. -/
theorem any_call (hT : TabOk P T) {o : Oper} {d : Nat} {fop : Operand} {xs : Array Operand} {ts : Array TypeId} {f : FuncId} {crs rs : List PassR} {R : List (Bool × List PV) → List (List PV) → Prop}
    (hr : Region.ready .any ops listed = [i]) (ms : List Md) (ho : ops[i]? = some o) (hop : o.op = .call ⟨.value fop, xs, ts⟩) (hd : o.dst = some d) (hg : evGuardL st ops.toList o.guard = some true) (hcal : calleeOf st fop = some (f, crs))
    (hp : passAll T st ms xs.toList ts.toList = some rs) (hok : okPass (rs ++ crs) = true) {args : List PArg} (hgood : Good P f args R) (hargs : (rs ++ crs).map PassR.x = args)
    (hk : ∀ rets outs, R rets outs → ∃ st2, back st (rs ++ crs) d rets outs = some st2 ∧ RunAny P ops fuel (listed.setIfInBounds i true) st2 Q) : RunAny P ops (fuel + 1) listed st Q := by
  intro Z w0 E0 pins gr a w hrel
  subst hargs
  refine wpAny_all hr (by simp) ?_
  intro j hj
  rw [List.mem_singleton] at hj
  subst hj
  refine wpOp_call hT hrel ho hop hd (by rw [evGuardL_eq] at hg; exact hg) hcal ms hp hok hgood ?_
  intro rets outs hq
  obtain ⟨st2, b1, b2⟩ := hk rets outs hq
  exact ⟨st2, b1, fun gr' a' w' hr' => b2 Z w0 E0 pins gr' a' w' hr'⟩

/-- Every operation that is ready. -/
theorem any_all {rs : List Nat} (hr : Region.ready .any ops listed = rs) (hne : rs ≠ [])
    (h : ∀ i, i ∈ rs → ∀ Z w0 E0 pins gr a w, Rel Z w0 E0 pins gr a w st → wpOp P ops (NormQ Z w0 E0 pins Q) i (wpAny P .any ops (NormQ Z w0 E0 pins Q) fuel (listed.setIfInBounds i true)) a w) : RunAny P ops (fuel + 1) listed st Q :=
  fun Z w0 E0 pins gr a w hrel => wpAny_all hr hne fun i hi => h i hi Z w0 E0 pins gr a w hrel
end

attribute [go_sem] TV.flat flatE St.flat

section
variable {P : Program} {T : Tab} {ops : Array Oper} {st st' : St} {Q : St → Prop} {fuel : Nat} {listed : Array Bool}

/-! ### with the calculations done on the way -/

theorem seq_draw {id : Nat} {y : Code} {Q : Exit → St → Prop} (hm : P.follows .mixedOrders = true) (n : Nat) (l : Array Bool) (h : RunAny P ops n l st fun s => Tri P y s Q) (hn : ops.size = n := by rfl) (hl : Array.replicate n false = l := by rfl) : Tri P (.seq (.region id ops true) y) st Q := by
  subst hl
  subst hn
  exact tri_seq (tri_draw hm h)

theorem draw_move {o : Oper} {x : Operand} {d : Nat} {tv : TV} {G : Bool} (i : Nat) (h : RunAny P ops fuel (listed.setIfInBounds i true) st' Q) (ho : ops[i]? = some o := by rfl) (hop : o.op = .move x := by rfl) (hd : o.dst = some d := by rfl)
    (hs : Region.noSelect ops = true := by kernel_rfl) (hf : Region.free .any ops listed i = true := by kernel_rfl) (hr : (Region.ready .any ops listed).contains i = true := by kernel_rfl) (hg : evGuardL st ops.toList o.guard = some G := by simp only [go_sem, reduceIte, Nat.reduceLT, Nat.reduceLeDiff, Nat.reduceEqDiff, Nat.reduceAdd, Nat.reduceSub, Nat.reduceMul, Nat.reduceBEq, Int.reduceEq, Int.reduceToNat] <;> rfl) (htv : st.opg G x = some tv := by simp only [go_sem, reduceIte, Nat.reduceLT, Nat.reduceLeDiff, Nat.reduceEqDiff, Nat.reduceAdd, Nat.reduceSub, Nat.reduceMul, Nat.reduceBEq, Int.reduceEq, Int.reduceToNat] <;> rfl) (hp : st.put? d (isNoneG o.guard) G tv = some st' := by simp only [go_sem, reduceIte, Nat.reduceLT, Nat.reduceLeDiff, Nat.reduceEqDiff, Nat.reduceAdd, Nat.reduceSub, Nat.reduceMul, Nat.reduceBEq, Int.reduceEq, Int.reduceToNat] <;> rfl) :
    RunAny P ops (fuel + 1) listed st Q := any_move ho hop hd hs hf hr hg htv hp h

theorem draw_plain (hT : TabOk P T) {o : Oper} {d : Nat} {tv : TV} {G : Bool} (i : Nat) (h : RunAny P ops fuel (listed.setIfInBounds i true) st' Q) (ho : ops[i]? = some o := by rfl) (hd : o.dst = some d := by rfl) (hs : Region.noSelect ops = true := by kernel_rfl)
    (hf : Region.free .any ops listed i = true := by kernel_rfl) (hr : (Region.ready .any ops listed).contains i = true := by kernel_rfl) (hg : evGuardL st ops.toList o.guard = some G := by simp only [go_sem, reduceIte, Nat.reduceLT, Nat.reduceLeDiff, Nat.reduceEqDiff, Nat.reduceAdd, Nat.reduceSub, Nat.reduceMul, Nat.reduceBEq, Int.reduceEq, Int.reduceToNat] <;> rfl) (htv : evQ T st.flat G o.op = some tv := by simp only [go_sem, reduceIte, Nat.reduceLT, Nat.reduceLeDiff, Nat.reduceEqDiff, Nat.reduceAdd, Nat.reduceSub, Nat.reduceMul, Nat.reduceBEq, Int.reduceEq, Int.reduceToNat] <;> rfl) (hfl : tv.flat = true := by rfl) (hp : st.put? d (isNoneG o.guard) G tv = some st' := by simp only [go_sem, reduceIte, Nat.reduceLT, Nat.reduceLeDiff, Nat.reduceEqDiff, Nat.reduceAdd, Nat.reduceSub, Nat.reduceMul, Nat.reduceBEq, Int.reduceEq, Int.reduceToNat] <;> rfl) :
    RunAny P ops (fuel + 1) listed st Q := any_plain hT ho hd hs hf hr hg htv hfl hp h

theorem draw_one (hT : TabOk P T) {o : Oper} (i : Nat) (h : RunAny P ops fuel (listed.setIfInBounds i true) st' Q) (hr : Region.ready .any ops listed = [i] := by kernel_rfl) (ho : ops[i]? = some o := by rfl) (he : evOpG T st (evGuardL st ops.toList o.guard) o = some st' := by simp only [go_sem, reduceIte, Nat.reduceLT, Nat.reduceLeDiff, Nat.reduceEqDiff, Nat.reduceAdd, Nat.reduceSub, Nat.reduceMul, Nat.reduceBEq, Int.reduceEq, Int.reduceToNat] <;> rfl) :
    RunAny P ops (fuel + 1) listed st Q := any_one hT hr ho he h

theorem draw_call (hT : TabOk P T) {o : Oper} {d : Nat} {fop : Operand} {xs : Array Operand} {ts : Array TypeId} {f : FuncId} {crs rs : List PassR} {R : List (Bool × List PV) → List (List PV) → Prop} (i : Nat) (ms : List Md) {args : List PArg} (hgood : Good P f args R)
    (hk : ∀ rets outs, R rets outs → ∃ st2, back st (rs ++ crs) d rets outs = some st2 ∧ RunAny P ops fuel (listed.setIfInBounds i true) st2 Q)
    (hr : Region.ready .any ops listed = [i] := by kernel_rfl) (ho : ops[i]? = some o := by rfl) (hop : o.op = .call ⟨.value fop, xs, ts⟩ := by rfl) (hd : o.dst = some d := by rfl) (hg : evGuardL st ops.toList o.guard = some true := by rfl) (hcal : calleeOf st fop = some (f, crs) := by rfl)
    (hp : passAll T st ms xs.toList ts.toList = some rs := by simp only [go_sem, reduceIte, Nat.reduceLT, Nat.reduceLeDiff, Nat.reduceEqDiff, Nat.reduceAdd, Nat.reduceSub, Nat.reduceMul, Nat.reduceBEq, Int.reduceEq, Int.reduceToNat] <;> rfl) (hok : okPass (rs ++ crs) = true := by rfl) (hargs : (rs ++ crs).map PassR.x = args := by rfl) :
    RunAny P ops (fuel + 1) listed st Q := any_call hT hr ms ho hop hd hg hcal hp hok hgood hargs hk

theorem draw_back {rs : List PassR} {d : Nat} {rets : List (Bool × List PV)} {outs : List (List PV)} {st2 : St} (h : RunAny P ops fuel listed st2 Q) (hb : back st rs d rets outs = some st2 := by simp only [go_sem, reduceIte, Nat.reduceLT, Nat.reduceLeDiff, Nat.reduceEqDiff, Nat.reduceAdd, Nat.reduceSub, Nat.reduceMul, Nat.reduceBEq, Int.reduceEq, Int.reduceToNat] <;> rfl) :
    ∃ st2, back st rs d rets outs = some st2 ∧ RunAny P ops fuel listed st2 Q := ⟨st2, hb, h⟩

theorem draw_done (h : Q st) (hr : Region.ready .any ops listed = [] := by kernel_rfl) : RunAny P ops fuel listed st Q := any_done hr h
end

end Go.Proofs.YtddfcajdelfikaaDoor.Vm
