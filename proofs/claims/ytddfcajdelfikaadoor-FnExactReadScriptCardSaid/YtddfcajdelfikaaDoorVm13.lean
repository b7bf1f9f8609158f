/- One operation; lists of operations; regions. -/
import Derived.Test.YtddfcajdelfikaaDoorVm12
set_option linter.unusedVariables false
set_option linter.unusedSimpArgs false
set_option linter.unusedSectionVars false
namespace Go.Proofs.YtddfcajdelfikaaDoor.Vm
open Go
open GV (absL extsL fzL)
open PV (frzL)

def orElse (a b : Option TV) : Option TV :=
  match a with
  | some x => some x
  | none => b

def evEqS (T : Tab) (st : St) (G : Bool) (op : BinOp) (t : Nat) (x y : Operand) : Option TV :=
  match T.get t, st.opg G x, st.opg G y with
  | some e, some (.val true r1), some (.val true r2) => bif e.eq && e.agg && Nat.beq r1.length e.size && Nat.beq r2.length e.size && sameKinds e.zero r1 then
      (match op, eqRow r1 r2 with
      | .eql, some b => some (.val false [.bool b])
      | .neq, some b => some (.val false [.bool (!b)])
      | _, _ => none) else none
  | _, _, _ => none

/-- Operations that change no root. -/
def evQ (T : Tab) (st : St) (G : Bool) (op : Op) : Option TV :=
  match op with
  | .move x => st.opg G x
  | .pick c x y => evPick st G c x y
  | .load t x => evLoad T st G t x
  | .nilCheck x => evNilCheck st G x
  | .binOp op t x y _ => orElse (evBinTV T st G op t x y) (evEqS T st G op t x y)
  | .unOp .not _ x => evNot st G x
  | .unOp .neg _ x => evNeg st G x
  | .convert s d x => evConv T st G s d x
  | .slice t x lo hi none => orElse (evSliceStr T st G t x lo hi) (evSliceSl T st G t x lo hi)
  | .fieldAddr s x f => evFieldAddr T st G s x f
  | .field s x f => evField T st G s x f
  | .indexAddr t x i => evIndexAddr T st G t x i
  | .index t x i => evIndex T st G t x i
  | .extract x i => evExtract st G x i
  | .call ⟨.builtin .len, ⟨[x]⟩, ⟨[t]⟩⟩ => evLen T st G t x
  | .call ⟨.builtin .max, ⟨[x, y]⟩, _⟩ => evMaxMin true st G x y
  | .call ⟨.builtin .min, ⟨[x, y]⟩, _⟩ => evMaxMin false st G x y
  | _ => none

/-- Operations that may change roots. -/
def evM (T : Tab) (st : St) (d ty : Nat) (op : Op) : Option (St × TV) :=
  match op with
  | .assign x => evAssign T st d ty x
  | .alloc t => evAlloc T st d t
  | .box t x => match evBoxS st x with
    | some tv => some (st, tv)
    | none => evBox T st d t x
  | .build t parts => evBuild T st d t parts.toList
  | .buildSlice t n parts => evBuildSlice T st d t n parts.toList
  | .makeSlice t l c => evMakeSlice T st d t l c
  | .convert s t x => (evBytesStr T st s t x).map fun tv => (st, tv)
  | .makeFunc (.func f) ⟨[]⟩ caps => match capsOf st caps.toList with
    | some cs => some (st, .clo f cs)
    | none => none
  | .call ⟨.builtin .append, ⟨[s, x]⟩, ⟨[t, t2]⟩⟩ => evAppend T st d t t2 s x
  | _ => none

/-- What an operation waits for: its own condition. -/
def evGuard (st : St) (ops : Array Oper) : Option (Nat × Bool) → Option Bool
  | none => some true
  | some (j, want) => match ops[j]? with
    | some ⟨some d, _, _, _, _, _⟩ => match lk st.env d 0 with
      | some (.val false [.bool b]) => some (b == want)
      | some (.grd g (.val false [.bool b])) => some (g && (b == want))
      | _ => none
    | _ => none

def isNoneG : Option (Nat × Bool) → Bool
  | none => true
  | some _ => false

def St.put? (st : St) (d : Nat) (un G : Bool) (tv : TV) : Option St := st.put d (bif un then tv else .grd G tv)

/-- One operation, but for calls of functions. -/
def evOp (T : Tab) (st : St) (ops : Array Oper) (o : Oper) : Option St :=
  match evGuard st ops o.guard with
  | none => none
  | some G =>
    match o.dst with
    | some d =>
      match evQ T st G o.op with
      | some tv => st.put? d (isNoneG o.guard) G tv
      | none =>
        match G with
        | true => match evM T st d o.type o.op with
          | some (st1, tv) => st1.put d tv
          | none => none
        | false => st.put d (.grd false (.val false [.bool false]))
    | none =>
      match G with
      | true => match o.op with
        | .store t x y => evStore T st t x y
        | _ => none
      | false => some st

section
variable {Z : Nat → Nat → Prop} {w0 : World} {E0 : List Ext} {pins : List Pin} {gr : List GR} {a : Act} {w : World} {st : St} {P : Program} {T : Tab} (hT : TabOk P T)
include hT

theorem evNilCheck_ok (h : Rel Z w0 E0 pins gr a w st) {G : Bool} (hG : G = true) {x : Operand} {tv : TV} (he : evNilCheck st G x = some tv) : TVOk Z w gr (a.eval x) tv ∧ ∃ A, a.eval x = .pointer (some A) := by
  unfold evNilCheck at he
  split at he
  · rename_i r p hx
    cases he
    have := h.opg hx hG
    obtain ⟨R, _, _, y, _, hv⟩ := this
    exact ⟨h.opg hx hG, _, hv⟩
  · rename_i row hx
    cases he
    have := h.opg hx hG
    obtain ⟨gs, b, o, _, _, _, _, _, hv⟩ := this
    exact ⟨h.opg hx hG, _, hv⟩
  · cases he

theorem evEqS_ok (h : Rel Z w0 E0 pins gr a w st) {G : Bool} (hG : G = true) {op : BinOp} {t : Nat} {x y : Operand} {tv : TV} (he : evEqS T st G op t x y = some tv) :
    ∃ v, (do eqGuard op t x y (a.eval x) (a.eval y); binOp op t (a.eval x) (a.eval y) : Sem Value).run P w = .ok v w ∧ TVOk Z w gr v tv := by
  unfold evEqS at he
  split at he
  · rename_i e r1 r2 hte hx hy
    cases hb : (e.eq && e.agg && Nat.beq r1.length e.size && Nat.beq r2.length e.size && sameKinds e.zero r1) with
    | false => rw [hb] at he; cases he
    | true =>
      rw [hb] at he
      simp only [cond_true] at he
      simp only [Bool.and_eq_true, Nat.beq_eq] at hb
      obtain ⟨⟨⟨⟨b1, b2⟩, b3⟩, b4⟩, b5⟩ := hb
      have hok := hT t e hte
      obtain ⟨e1, e2⟩ := hok.eqs b1 b2
      obtain ⟨gs1, p1, p2, p3, p4⟩ := h.opg hx hG
      obtain ⟨gs2, q1, q2, q3, q4⟩ := h.opg hy hG
      simp only [Packed] at p4 q4
      have hsz : P.cellsOf t = e.size := by
        obtain ⟨i, z, hi, hs, _⟩ := hok.info
        simp [Program.cellsOf, hi, hs]
      split at he
      · rename_i b hr
        cases he
        have := e2 w _ gs1 gs2 b p3 q3 (by rw [hsz, ← b3, ← p1, absL_length]) (by rw [hsz, ← b4, ← q1, absL_length]) (by rw [p1]; exact b5) (by rw [p1, q1]; exact hr)
        refine ⟨_, ?_, tv_sc (p := .bool b) rfl⟩
        rw [p4, q4]
        simp only [Sem.run_bind, run_eqGuard_agg w _ t x y _ _ e1, Result.andThen_ok, run_eql_struct, this, PV.toV]
      · rename_i b hr
        cases he
        have := e2 w _ gs1 gs2 b p3 q3 (by rw [hsz, ← b3, ← p1, absL_length]) (by rw [hsz, ← b4, ← q1, absL_length]) (by rw [p1]; exact b5) (by rw [p1, q1]; exact hr)
        refine ⟨_, ?_, tv_sc (p := .bool (!b)) rfl⟩
        rw [p4, q4]
        simp only [Sem.run_bind, run_eqGuard_agg w _ t x y _ _ e1, Result.andThen_ok, run_neq_struct, this, PV.toV]
      · cases he
  · cases he

theorem orElse_some {a b : Option TV} {tv : TV} (h : orElse a b = some tv) : a = some tv ∨ b = some tv := by
  cases a with
  | none => exact .inr h
  | some x => exact .inl h

theorem evQ_ok (h : Rel Z w0 E0 pins gr a w st) {G : Bool} (hG : G = true) {o : Oper} {tv : TV} (he : evQ T st G o.op = some tv) :
    ∃ v, (execOp a.eval o).run P w = .ok (.value v) w ∧ TVOk Z w gr v tv := by
  unfold evQ at he
  unfold execOp
  split at he
  · rename_i x hop
    rw [hop]
    exact ⟨a.eval x, rfl, h.opg he hG⟩
  · rename_i c x y hop
    rw [hop]
    obtain ⟨v, h1, h2⟩ := evPick_ok (P := P) hT h hG he
    refine ⟨v, ?_, h2⟩
    simp only [Sem.run_bind, Sem.run_pure] at h1 ⊢
    cases hb : (asBool (a.eval c)).run P w with
    | ok b w1 => rw [hb] at h1; simp only [Result.andThen_ok, Result.ok.injEq] at h1 ⊢; exact ⟨by rw [h1.1], h1.2⟩
    | halt x w1 => rw [hb] at h1; cases h1
  · rename_i t x hop
    rw [hop]
    obtain ⟨v, h1, h2⟩ := evLoad_ok (P := P) hT h hG he
    exact ⟨v, by simp only [Sem.run_bind, h1, Result.andThen_ok, Sem.run_pure], h2⟩
  · rename_i x hop
    rw [hop]
    obtain ⟨h1, A, hA⟩ := evNilCheck_ok hT h hG he
    exact ⟨a.eval x, by simp only [hA, Sem.run_pure], h1⟩
  · rename_i op t x y yt hop
    rw [hop]
    rcases orElse_some hT he with he | he
    · obtain ⟨v, h1, h2⟩ := evBinTV_ok (P := P) hT h hG he
      exact ⟨v, by simp only [Sem.run_bind] at h1 ⊢; simp only [h1, Result.andThen_ok, Sem.run_pure], h2⟩
    · obtain ⟨v, h1, h2⟩ := evEqS_ok (P := P) hT h hG he
      exact ⟨v, by simp only [Sem.run_bind] at h1 ⊢; simp only [h1, Result.andThen_ok, Sem.run_pure], h2⟩
  · rename_i t x hop
    rw [hop]
    obtain ⟨v, h1, h2⟩ := evNot_ok (P := P) hT h hG he
    exact ⟨v, by simp only [Sem.run_bind, h1, Result.andThen_ok, Sem.run_pure], h2⟩
  · rename_i t x hop
    rw [hop]
    obtain ⟨v, h1, h2⟩ := evNeg_ok (P := P) hT h hG he
    exact ⟨v, by simp only [Sem.run_bind, h1, Result.andThen_ok, Sem.run_pure], h2⟩
  · rename_i s d x hop
    rw [hop]
    obtain ⟨v, h1, h2⟩ := evConv_ok (P := P) hT h hG he
    exact ⟨v, by simp only [Sem.run_bind, h1, Result.andThen_ok, Sem.run_pure], h2⟩
  · rename_i t x lo hi hop
    rw [hop]
    rcases orElse_some hT he with he | he
    · obtain ⟨v, h1, h2⟩ := evSliceStr_ok (P := P) hT h hG he
      exact ⟨v, by simp only [Sem.run_bind, Option.map_none, h1, Result.andThen_ok, Sem.run_pure], h2⟩
    · obtain ⟨v, h1, h2⟩ := evSliceSl_ok (P := P) hT h hG he
      exact ⟨v, by simp only [Sem.run_bind, Option.map_none, h1, Result.andThen_ok, Sem.run_pure], h2⟩
  · rename_i s x f hop
    rw [hop]
    obtain ⟨v, h1, h2⟩ := evFieldAddr_ok (P := P) hT h hG he
    exact ⟨v, by simp only [Sem.run_bind, h1, Result.andThen_ok, Sem.run_pure], h2⟩
  · rename_i s x f hop
    rw [hop]
    obtain ⟨v, h1, h2⟩ := evField_ok (P := P) hT h hG he
    exact ⟨v, by simp only [Sem.run_bind, h1, Result.andThen_ok, Sem.run_pure], h2⟩
  · rename_i t x i hop
    rw [hop]
    obtain ⟨v, h1, h2⟩ := evIndexAddr_ok (P := P) hT h hG he
    exact ⟨v, by simp only [Sem.run_bind, h1, Result.andThen_ok, Sem.run_pure], h2⟩
  · rename_i t x i hop
    rw [hop]
    obtain ⟨v, h1, h2⟩ := evIndex_ok (P := P) hT h hG he
    exact ⟨v, by simp only [Sem.run_bind, h1, Result.andThen_ok, Sem.run_pure], h2⟩
  · rename_i x i hop
    rw [hop]
    obtain ⟨v, h1, h2⟩ := evExtract_ok (P := P) hT h hG he
    exact ⟨v, by simp only [Sem.run_bind, h1, Result.andThen_ok, Sem.run_pure], h2⟩
  · rename_i x t hop
    rw [hop]
    obtain ⟨v, h1, h2⟩ := evLen_ok (P := P) (ty := o.type) hT h hG he
    refine ⟨v, ?_, h2⟩
    simp only [resolve, invoke, builtin, Sem.run_bind, Sem.run_pure, Result.andThen_ok, List.map_toArray, List.map_cons, List.map_nil, h1]
  · rename_i x y ts hop
    rw [hop]
    obtain ⟨v, h1, h2⟩ := evMaxMin_ok (P := P) (ts := ts) (t := o.type) hT h hG he
    refine ⟨v, ?_, h2⟩
    simp only [cond_true] at h1
    simp only [resolve, invoke, builtin, Sem.run_bind, Sem.run_pure, Result.andThen_ok, List.map_toArray, List.map_cons, List.map_nil, h1]
  · rename_i x y ts hop
    rw [hop]
    obtain ⟨v, h1, h2⟩ := evMaxMin_ok (P := P) (ts := ts) (t := o.type) hT h hG he
    refine ⟨v, ?_, h2⟩
    simp only [cond_false] at h1
    simp only [resolve, invoke, builtin, Sem.run_bind, Sem.run_pure, Result.andThen_ok, List.map_toArray, List.map_cons, List.map_nil, h1]
  · cases he

theorem evM_ok (h : Rel Z w0 E0 pins gr a w st) {d : Nat} {o : Oper} {st' : St} {tv : TV} (he : evM T st d o.type o.op = some (st', tv)) :
    ∃ v w' gr', (execOp a.eval o).run P w = .ok (.value v) w' ∧ Rel Z w0 E0 pins gr' a w' st' ∧ TVOk Z w' gr' v tv := by
  unfold evM at he
  unfold execOp
  split at he
  · rename_i x hop
    rw [hop]
    obtain ⟨gr', h1, h2⟩ := evAssign_ok hT h he
    exact ⟨a.eval x, w, gr', rfl, h1, h2⟩
  · rename_i t hop
    rw [hop]
    obtain ⟨v, w', gr', h1, h2, h3⟩ := evAlloc_ok (P := P) hT h he
    exact ⟨v, w', gr', by simp only [Sem.run_bind, h1, Result.andThen_ok, Sem.run_pure], h2, h3⟩
  · rename_i t x hop
    rw [hop]
    split at he
    · rename_i tv' hbs
      cases he
      obtain ⟨v, w', gr', h1, h2, h3⟩ := evBoxS_ok (P := P) (elem := t) hT h hbs
      exact ⟨v, w', gr', by simp only [Sem.run_bind, h1, Result.andThen_ok, Sem.run_pure], h2, h3⟩
    · rename_i hbs
      obtain ⟨v, w', gr', h1, h2, h3⟩ := evBox_ok (P := P) hT h he
      exact ⟨v, w', gr', by simp only [Sem.run_bind, h1, Result.andThen_ok, Sem.run_pure], h2, h3⟩
  · rename_i t parts hop
    rw [hop]
    obtain ⟨v, gr', h1, h2, h3⟩ := evBuild_ok (P := P) hT h he
    refine ⟨v, w, gr', ?_, h2, h3⟩
    have : (parts.map fun (i, x) => (i, a.eval x)) = (parts.toList.map fun (i, x) => (i, a.eval x)).toArray := by
      apply Array.ext'; simp
    simp only [this, Sem.run_bind, h1, Result.andThen_ok, Sem.run_pure]
  · rename_i t n parts hop
    rw [hop]
    obtain ⟨v, w', gr', h1, h2, h3⟩ := evBuildSlice_ok (P := P) hT h he
    refine ⟨v, w', gr', ?_, h2, h3⟩
    have : (parts.map fun (i, x) => (i, a.eval x)) = (parts.toList.map fun (i, x) => (i, a.eval x)).toArray := by
      apply Array.ext'; simp
    simp only [this, Sem.run_bind, h1, Result.andThen_ok, Sem.run_pure]
  · rename_i t l c hop
    rw [hop]
    obtain ⟨v, w', gr', h1, h2, h3⟩ := evMakeSlice_ok (P := P) hT h he
    exact ⟨v, w', gr', by simp only [Sem.run_bind, h1, Result.andThen_ok, Sem.run_pure], h2, h3⟩
  · rename_i s t x hop
    rw [hop]
    simp only [Option.map_eq_some_iff] at he
    obtain ⟨tv', he, heq⟩ := he
    cases heq
    obtain ⟨v, h1, h2⟩ := evBytesStr_ok (P := P) hT h he
    exact ⟨v, w, gr, by simp only [Sem.run_bind, h1, Result.andThen_ok, Sem.run_pure], h, h2⟩
  · rename_i f caps hop
    rw [hop]
    split at he
    · rename_i cs hcs
      cases he
      have := caps_ok h hcs
      refine ⟨.func (.func f) #[] (caps.map a.eval), w, gr, ?_, h, caps.toList.map a.eval, ?_, this⟩
      · simp only [Instr.makeFunc, List.map_toArray, List.map_nil, Sem.run_bind, Sem.run_pure, Result.andThen_ok]
      · congr 1
        apply Array.ext'; simp
    · cases he
  · rename_i s x t t2 hop
    rw [hop]
    obtain ⟨v, w', gr', h1, h2, h3⟩ := evAppend_ok (P := P) (ty := o.type) hT h he
    refine ⟨v, w', gr', ?_, h2, h3⟩
    simp only [resolve, invoke, builtin, Sem.run_bind, Sem.run_pure, Result.andThen_ok, List.map_toArray, List.map_cons, List.map_nil, h1]
  · cases he

omit hT in
theorem evGuard_ok (h : Rel Z w0 E0 pins gr a w st) {ops : Array Oper} {o : Oper} {G : Bool} (he : evGuard st ops o.guard = some G) : Region.wanted o (yielded ops a.tmps) = G := by
  unfold Region.wanted
  cases hg : o.guard with
  | none => rw [hg] at he; cases he; rfl
  | some jw =>
    obtain ⟨j, want⟩ := jw
    rw [hg] at he
    simp only [evGuard] at he
    simp only []
    split at he
    · rename_i d op ty pos af gd hj
      have hy : ∀ v, a.tmps.getD d undef = v → d < a.tmps.size → yielded ops a.tmps j = (match v with | .bool b => some b | _ => none) := by
        intro v hv hd
        unfold yielded
        rw [hj]
        simp only [Option.bind_some]
        have : a.tmps[d]? = some v := by
          rw [Array.getElem?_eq_getElem hd, ← hv]
          simp [Array.getD, hd]
        rw [this]
        cases v <;> rfl
      split at he
      · rename_i b hl
        cases he
        obtain ⟨h1, gs, q1, q2, q3, g, rfl, q4⟩ := h.env _ (lk_mem hl)
        simp only [GV.absL, List.cons.injEq, and_true] at q1
        simp only [SatL, and_true] at q3
        rw [hy _ q4 h1, sat_bool q3 q1]
        cases b <;> cases want <;> rfl
      · rename_i g b hl
        cases he
        obtain ⟨h1, h2, h3⟩ := h.env _ (lk_mem hl)
        cases g with
        | false =>
          rw [hy _ (h3 rfl) h1]
          cases want <;> rfl
        | true =>
          obtain ⟨gs, q1, q2, q3, g, rfl, q4⟩ := h2 rfl
          simp only [GV.absL, List.cons.injEq, and_true] at q1
          simp only [SatL, and_true] at q3
          rw [hy _ q4 h1, sat_bool q3 q1]
          cases b <;> cases want <;> rfl
      · cases he
    · cases he

/-- One operation: the machine does it. -/
theorem evOp_ok (h : Rel Z w0 E0 pins gr a w st) {ops : Array Oper} {i : Nat} {o : Oper} (ho : ops[i]? = some o) {st' : St} (he : evOp T st ops o = some st') {Q : Exit → Act → World → Prop} {K : Act → World → Prop}
    (hK : ∀ gr' a' w', Rel Z w0 E0 pins gr' a' w' st' → K a' w') : wpOp P ops Q i K a w := by
  unfold wpOp
  rw [ho]
  simp only []
  unfold evOp at he
  split at he
  · cases he
  · rename_i G hg
    have hw := evGuard_ok h hg
    rw [hw]
    cases hd : o.dst with
    | some d =>
      rw [hd] at he
      simp only [] at he
      split at he
      · rename_i tv htv
        unfold St.put? at he
        cases G with
        | true =>
          obtain ⟨v, h1, h2⟩ := evQ_ok hT h rfl htv
          refine .inl ?_
          unfold Oper.wp
          rw [h1, Oper.upon_value, hd]
          refine hK gr _ w (h.gput ?_ he)
          cases isNoneG o.guard with
          | true => exact h2
          | false => exact ⟨fun _ => h2, fun h => by cases h⟩
        | false =>
          have hn : isNoneG o.guard = false := by
            cases hgd : o.guard with
            | none => rw [hgd] at hg; cases hg
            | some _ => rfl
          rw [hn] at he
          simp only [Bool.false_eq_true, if_false]
          have ht : TVOk Z w gr undef (.grd false tv) := ⟨fun h => (by cases h), fun _ => rfl⟩
          exact hK gr _ w (h.gput ht he)
      · cases G with
        | true =>
          simp only [] at he
          split at he
          · rename_i st1 tv hm
            obtain ⟨v, w', gr', h1, h2, h3⟩ := evM_ok hT h hm
            refine .inl ?_
            unfold Oper.wp
            rw [h1, Oper.upon_value, hd]
            exact hK gr' _ w' (h2.gput h3 he)
          · cases he
        | false =>
          simp only [] at he
          simp only [Bool.false_eq_true, if_false]
          have ht : TVOk Z w gr undef (.grd false (.val false [.bool false])) := ⟨fun h => (by cases h), fun _ => rfl⟩
          exact hK gr _ w (h.gput ht he)
    | none =>
      rw [hd] at he
      simp only [] at he
      cases G with
      | true =>
        simp only [] at he
        split at he
        · rename_i t x y hop
          obtain ⟨w', gr', h1, h2⟩ := evStore_ok (P := P) hT h he
          refine .inl ?_
          unfold Oper.wp execOp
          rw [hop]
          simp only [Sem.run_bind, h1, Result.andThen_ok, Sem.run_pure, Oper.upon_skip, hd]
          exact hK gr' a w' h2
        · cases he
      | false =>
        simp only [Option.some.injEq] at he
        subst he
        simp only [Bool.false_eq_true, if_false]
        exact hK gr a w h
end

/-! ### operations in the order of the text -/

/-- Operations that are still to come, in order: what holds behind them. -/
def TriOps (P : Program) (ops : Array Oper) (l : List Nat) (st : St) (Q : St → Prop) : Prop :=
  ∀ Z w0 E0 pins gr a w, Rel Z w0 E0 pins gr a w st → ∀ (Q' : Exit → Act → World → Prop), (∀ gr' a' w' st', Rel Z w0 E0 pins gr' a' w' st' → Q st' → Q' .normal a' w') → wpOps P ops Q' l a w

theorem triOps_nil {P : Program} {ops : Array Oper} {st : St} {Q : St → Prop} (h : Q st) : TriOps P ops [] st Q :=
  fun _ _ _ _ gr a w hr _ hq => hq gr a w st hr h

theorem triOps_op {P : Program} {T : Tab} (hT : TabOk P T) {ops : Array Oper} {i : Nat} {l : List Nat} {o : Oper} (ho : ops[i]? = some o) {st st' : St} (he : evOp T st ops o = some st') {Q : St → Prop}
    (h : TriOps P ops l st' Q) : TriOps P ops (i :: l) st Q := by
  intro Z w0 E0 pins gr a w hr Q' hq
  rw [wpOps_cons]
  exact evOp_ok hT hr ho he fun gr' a' w' hr' => h Z w0 E0 pins gr' a' w' hr' Q' hq

/-- A run of plain operations. -/
def evOps (T : Tab) (ops : Array Oper) : List Nat → St → Option St
  | [], st => some st
  | i :: l, st => match ops[i]? with
    | some o => match evOp T st ops o with
      | some st1 => evOps T ops l st1
      | none => none
    | none => none

theorem triOps_all {P : Program} {T : Tab} (hT : TabOk P T) {ops : Array Oper} : ∀ {l : List Nat} {st st' : St}, evOps T ops l st = some st' → ∀ {Q : St → Prop}, Q st' → TriOps P ops l st Q
  | [], st, st', he, Q, h => by simp only [evOps] at he; cases he; exact triOps_nil h
  | i :: l, st, st', he, Q, h => by
    simp only [evOps] at he
    split at he
    · rename_i o ho
      split at he
      · rename_i st1 h1
        exact triOps_op hT ho h1 (triOps_all hT he h)
      · cases he
    · cases he

/-- What a state may forget: temporaries. -/
def St.keep (st : St) (ks : List Nat) : St := { st with env := st.env.filter fun e => ks.contains e.1.1 }

theorem tri_region {P : Program} {ops : Array Oper} {id : Nat} {st : St} {Q : Exit → St → Prop} (h : TriOps P ops (List.range ops.size) st (Q .normal)) : Tri P (.region id ops false) st Q := by
  intro Z w0 E0 pins gr a w hr
  exact wp_region (h Z w0 E0 pins gr a w hr _ fun gr' a' w' st' h1 h2 => ⟨gr', st', h1, h2⟩)

theorem tri_keep {P : Program} {c : Code} {st : St} {Q : Exit → St → Prop} (ks : List Nat) (h : Tri P c (st.keep ks) Q) : Tri P c st Q :=
  fun Z w0 E0 pins gr a w hr => h Z w0 E0 pins gr a w (hr.weaken (fun e he => (List.mem_filter.1 he).1))

theorem tri_cond {P : Program} {st : St} {Q : Exit → St → Prop} {c : Operand} {x y : Code} {b : Bool} (hc : st.sc true c = some (.bool b)) (h : Tri P (if b then x else y) st Q) : Tri P (.cond c x y) st Q :=
  fun Z w0 E0 pins gr a w hr => wp_cond (hr.bool hc rfl) (h Z w0 E0 pins gr a w hr)

end Go.Proofs.YtddfcajdelfikaaDoor.Vm
