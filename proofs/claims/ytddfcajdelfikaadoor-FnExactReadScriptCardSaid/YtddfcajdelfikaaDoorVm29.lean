/- Regions that draw their order: operations that only add may come in any order. -/
import Derived.Test.YtddfcajdelfikaaDoorVm28
set_option linter.unusedVariables false
set_option linter.unusedSimpArgs false
set_option linter.unusedSectionVars false
namespace Go.Proofs.YtddfcajdelfikaaDoor.Vm
open Go
open GV (absL extsL fzL)
open PV (frzL)

/-- What an operation adds. -/
structure OD where
  i : Nat
  d : Nat
  env : List (Key × TV)
  roots : List Root

def xs (st : St) : List OD → St
  | [] => st
  | x :: X => { xs st X with env := x.env ++ (xs st X).env, roots := x.roots ++ (xs st X).roots }

def offD (d : Nat) : List (Key × TV) → Bool
  | [] => true
  | e :: r => !e.2.onD d && offD d r

def allD (d : Nat) : List (Key × TV) → Bool
  | [] => true
  | e :: r => Nat.beq e.1.1 d && allD d r

def rootsD (d : Nat) : List Root → Bool
  | [] => true
  | R :: r => Nat.beq R.key.1 d && rootsD d r

def noneD (d : Nat) : List (Key × TV) → Bool
  | [] => true
  | e :: r => !Nat.beq e.1.1 d && noneD d r

def noRootD (d : Nat) : List Root → Bool
  | [] => true
  | R :: r => !Nat.beq R.key.1 d && noRootD d r

def keysE : List (Key × TV) → List Key
  | [] => []
  | e :: r => e.1 :: keysE r

def OD.ok (x : OD) : Bool := allD x.d x.env && noDup (keysE x.env) && rootsD x.d x.roots

def freshD (d : Nat) (st : St) : Bool := noneD d st.env && offD d st.env && noRootD d st.roots && noD d st.pk && Nat.blt d st.nt

theorem offD_iff {d : Nat} : ∀ {l : List (Key × TV)}, offD d l = true ↔ ∀ e, e ∈ l → e.2.onD d = false
  | [] => by simp [offD]
  | e :: r => by simp [offD, offD_iff (l := r)]
theorem allD_iff {d : Nat} : ∀ {l : List (Key × TV)}, allD d l = true ↔ ∀ e, e ∈ l → e.1.1 = d
  | [] => by simp [allD]
  | e :: r => by simp [allD, allD_iff (l := r), nat_beq]
theorem noneD_iff {d : Nat} : ∀ {l : List (Key × TV)}, noneD d l = true ↔ ∀ e, e ∈ l → e.1.1 ≠ d
  | [] => by simp [noneD]
  | e :: r => by simp [noneD, noneD_iff (l := r), nat_beq]
theorem rootsD_iff {d : Nat} : ∀ {l : List Root}, rootsD d l = true ↔ ∀ R, R ∈ l → R.key.1 = d
  | [] => by simp [rootsD]
  | e :: r => by simp [rootsD, rootsD_iff (l := r), nat_beq]
theorem noRootD_iff {d : Nat} : ∀ {l : List Root}, noRootD d l = true ↔ ∀ R, R ∈ l → R.key.1 ≠ d
  | [] => by simp [noRootD]
  | e :: r => by simp [noRootD, noRootD_iff (l := r), nat_beq]
theorem keysE_eq : ∀ (l : List (Key × TV)), keysE l = l.map (·.1)
  | [] => rfl
  | e :: r => by simp [keysE, keysE_eq r]

theorem lk_of_mem : ∀ {env : List (Key × TV)} {t c : Nat} {tv : TV}, (env.map (·.1)).Nodup → ((t, c), tv) ∈ env → lk env t c = some tv
  | [], _, _, _, _, h => by cases h
  | ((t', c'), tv') :: r, t, c, tv, hn, h => by
    simp only [List.map_cons, List.nodup_cons] at hn
    simp only [lk]
    rcases List.mem_cons.1 h with h | h
    · cases h; simp
    · have hk : (t, c) ∈ r.map (·.1) := List.mem_map.2 ⟨_, h, rfl⟩
      have ih := lk_of_mem hn.2 h
      by_cases h1 : t' = t
      · rw [if_pos h1]
        by_cases h2 : c' = c
        · subst h1; subst h2; exact absurd hk hn.1
        · rw [if_neg h2]; exact ih
      · rw [if_neg h1]; exact ih

/-- The operation leads from the one state to the other. -/
def Stp (P : Program) (ops : Array Oper) (i : Nat) (s s' : St) : Prop :=
  ∀ Z w0 E0 pins gr a w, Rel Z w0 E0 pins gr a w s → ∀ (K : Act → World → Prop) (Q' : Exit → Act → World → Prop), (∀ gr' a' w', Rel Z w0 E0 pins gr' a' w' s' → K a' w') → wpOp P ops Q' i K a w

structure OkX (st0 : St) (x : OD) (X : List OD) : Prop where
  each : ∀ y, y ∈ X → y.ok = true ∧ freshD y.d st0 = true ∧ y.d ≠ x.d ∧ offD x.d y.env = true
  nd : (X.map OD.d).Nodup

def GStep (P : Program) (ops : Array Oper) (st0 : St) (pre : List OD) (x : OD) : Prop :=
  ∀ X : List OD, (∀ y, y ∈ pre → y ∈ X) → OkX st0 x X → Stp P ops x.i (xs st0 X) (xs st0 (x :: X))

section
variable {st0 : St}

theorem mem_xs_env : ∀ {X : List OD} {e : Key × TV}, e ∈ (xs st0 X).env ↔ (∃ y, y ∈ X ∧ e ∈ y.env) ∨ e ∈ st0.env
  | [], e => by simp [xs]
  | x :: X, e => by
    simp only [xs, List.mem_append, mem_xs_env (X := X), List.mem_cons]
    constructor
    · rintro (h | ⟨y, hy, h⟩ | h)
      · exact .inl ⟨x, .inl rfl, h⟩
      · exact .inl ⟨y, .inr hy, h⟩
      · exact .inr h
    · rintro (⟨y, rfl | hy, h⟩ | h)
      · exact .inl h
      · exact .inr (.inl ⟨y, hy, h⟩)
      · exact .inr (.inr h)

theorem mem_xs_roots : ∀ {X : List OD} {R : Root}, R ∈ (xs st0 X).roots ↔ (∃ y, y ∈ X ∧ R ∈ y.roots) ∨ R ∈ st0.roots
  | [], e => by simp [xs]
  | x :: X, e => by
    simp only [xs, List.mem_append, mem_xs_roots (X := X), List.mem_cons]
    constructor
    · rintro (h | ⟨y, hy, h⟩ | h)
      · exact .inl ⟨x, .inl rfl, h⟩
      · exact .inl ⟨y, .inr hy, h⟩
      · exact .inr h
    · rintro (⟨y, rfl | hy, h⟩ | h)
      · exact .inl h
      · exact .inr (.inl ⟨y, hy, h⟩)
      · exact .inr (.inr h)

theorem xs_nt : ∀ (X : List OD), (xs st0 X).nt = st0.nt
  | [] => rfl
  | x :: X => xs_nt X
theorem xs_pk : ∀ (X : List OD), (xs st0 X).pk = st0.pk
  | [] => rfl
  | x :: X => xs_pk X

theorem xs_nodup (h0 : noDup (keysE st0.env) = true) : ∀ {X : List OD}, (∀ y, y ∈ X → y.ok = true ∧ freshD y.d st0 = true) → (X.map OD.d).Nodup → ((xs st0 X).env.map (·.1)).Nodup
  | [], _, _ => by
    have := noDup_iff h0
    rw [keysE_eq] at this
    exact this
  | x :: X, h, hn => by
    simp only [List.map_cons, List.nodup_cons] at hn
    obtain ⟨h1, h2⟩ := h x List.mem_cons_self
    simp only [OD.ok, Bool.and_eq_true] at h1
    have ih := xs_nodup h0 (fun y hy => h y (List.mem_cons_of_mem _ hy)) hn.2
    simp only [xs, List.map_append]
    rw [List.nodup_append]
    refine ⟨?_, ih, ?_⟩
    · rw [← keysE_eq]; exact noDup_iff h1.1.2
    · intro k hk k' hk' heq
      subst heq
      obtain ⟨e, he, rfl⟩ := List.mem_map.1 hk
      obtain ⟨e', he', heq⟩ := List.mem_map.1 hk'
      have ht := allD_iff.1 h1.1.1 e he
      rcases mem_xs_env.1 he' with ⟨y, hy, hye⟩ | he0
      · have hyo := (h y (List.mem_cons_of_mem _ hy)).1
        simp only [OD.ok, Bool.and_eq_true] at hyo
        have := allD_iff.1 hyo.1.1 e' hye
        rw [heq, ht] at this
        exact hn.1 (List.mem_map.2 ⟨y, hy, this.symm⟩)
      · simp only [freshD, Bool.and_eq_true] at h2
        exact noneD_iff.1 h2.1.1.1.1 e' he0 (by rw [heq, ht])

theorem xs_le (h0 : noDup (keysE st0.env) = true) {pre X : List OD} (hp : ∀ y, y ∈ pre → y ∈ X) (h : ∀ y, y ∈ X → y.ok = true ∧ freshD y.d st0 = true) (hn : (X.map OD.d).Nodup)
    {Z : Nat → Nat → Prop} {w0 : World} {E0 : List Ext} {pins : List Pin} {gr : List GR} {a : Act} {w : World} (hr : Rel Z w0 E0 pins gr a w (xs st0 X)) : Le (xs st0 pre) (xs st0 X) where
  env x c tv e := by
    have hm := lk_mem e
    refine lk_of_mem (xs_nodup h0 h hn) ?_
    rcases mem_xs_env.1 hm with ⟨y, hy, hye⟩ | he0
    · exact mem_xs_env.2 (.inl ⟨y, hp y hy, hye⟩)
    · exact mem_xs_env.2 (.inr he0)
  roots k R e := by
    obtain ⟨hm, rfl⟩ := rlk_mem e
    have hR : R ∈ (xs st0 X).roots := by
      rcases mem_xs_roots.1 hm with ⟨y, hy, hye⟩ | he0
      · exact mem_xs_roots.2 (.inl ⟨y, hp y hy, hye⟩)
      · exact mem_xs_roots.2 (.inr he0)
    rw [hr.roots] at hR ⊢
    obtain ⟨g, hg, rfl⟩ := List.mem_map.1 hR
    exact rlk_key hr.keys hg
  nt := by rw [xs_nt, xs_nt]
  pk := by rw [xs_pk, xs_pk]

theorem xs_fresh {x : OD} (hf : freshD x.d st0 = true) {X : List OD} (h : OkX st0 x X) : freshD x.d (xs st0 X) = true := by
  simp only [freshD, Bool.and_eq_true] at hf ⊢
  rw [xs_nt, xs_pk]
  refine ⟨⟨⟨⟨?_, ?_⟩, ?_⟩, hf.1.2⟩, hf.2⟩
  · refine noneD_iff.2 fun e he => ?_
    rcases mem_xs_env.1 he with ⟨y, hy, hye⟩ | he0
    · have hyo := (h.each y hy).1
      simp only [OD.ok, Bool.and_eq_true] at hyo
      rw [allD_iff.1 hyo.1.1 e hye]
      exact (h.each y hy).2.2.1
    · exact noneD_iff.1 hf.1.1.1.1 e he0
  · refine offD_iff.2 fun e he => ?_
    rcases mem_xs_env.1 he with ⟨y, hy, hye⟩ | he0
    · exact offD_iff.1 (h.each y hy).2.2.2 e hye
    · exact offD_iff.1 hf.1.1.1.2 e he0
  · refine noRootD_iff.2 fun R hR => ?_
    rcases mem_xs_roots.1 hR with ⟨y, hy, hye⟩ | he0
    · have hyo := (h.each y hy).1
      simp only [OD.ok, Bool.and_eq_true] at hyo
      rw [rootsD_iff.1 hyo.2 R hye]
      exact (h.each y hy).2.2.1
    · exact noRootD_iff.1 hf.1.1.2 R he0

theorem OkX.all {x : OD} {X : List OD} (h : OkX st0 x X) : ∀ y, y ∈ X → y.ok = true ∧ freshD y.d st0 = true := fun y hy => ⟨(h.each y hy).1, (h.each y hy).2.1⟩
end

theorem del_id {d : Nat} : ∀ {env : List (Key × TV)}, noneD d env = true → del env d = env
  | [], _ => rfl
  | ((t, c), tv) :: r, h => by
    simp only [noneD, Bool.and_eq_true, Bool.not_eq_true', nat_beq, beq_eq_false_iff_ne] at h
    simp only [del, if_neg h.1, del_id h.2]

theorem keepE_id {f : TV → Bool} : ∀ {env : List (Key × TV)}, (∀ e, e ∈ env → f e.2 = true) → keepE f env = env
  | [], _ => rfl
  | e :: r, h => by
    simp only [keepE, h e List.mem_cons_self, cond_true, keepE_id fun e he => h e (List.mem_cons_of_mem _ he)]

theorem delR_id {k : Key} : ∀ {rs : List Root}, (∀ R, R ∈ rs → R.key ≠ k) → delR rs k = rs
  | [], _ => rfl
  | R :: r, h => by
    simp only [delR, keyEq_false.2 (h R List.mem_cons_self), cond_false, delR_id fun R hR => h R (List.mem_cons_of_mem _ hR)]

theorem setR_id {k : Key} {row : List PV} : ∀ {rs : List Root}, (∀ R, R ∈ rs → R.key ≠ k) → setR rs k row = rs
  | [], _ => rfl
  | R :: r, h => by
    simp only [setR, keyEq_false.2 (h R List.mem_cons_self), cond_false, setR_id fun R hR => h R (List.mem_cons_of_mem _ hR)]

theorem keepC_id {d : Nat} : ∀ {env : List (Key × TV)}, noneD d env = true → offD d env = true → keepC d [] (fun _ => true) env = env
  | [], _, _ => rfl
  | e :: r, h, h' => by
    simp only [noneD, Bool.and_eq_true, Bool.not_eq_true'] at h
    simp only [offD, Bool.and_eq_true, Bool.not_eq_true'] at h'
    simp only [keepC, h.1, h'.1, TV.onAny, Bool.not_true, Bool.or_false, cond_false, keepC_id h.2 h'.2]

theorem keepRC_id {d : Nat} : ∀ {rs : List Root}, noRootD d rs = true → keepRC d [] rs = rs
  | [], _ => rfl
  | R :: r, h => by
    simp only [noRootD, Bool.and_eq_true, Bool.not_eq_true'] at h
    simp only [keepRC, h.1, hasKey, Bool.or_false, cond_false, keepRC_id h.2]

theorem onD_of_on {d : Nat} {c : Nat} : ∀ {tv : TV}, tv.onD d = false → tv.on (d, c) = false
  | .val .., _ => rfl
  | .nil, _ => rfl
  | .fadr _, _ => rfl
  | .adr r p, h => by simp only [TV.onD, nat_beq] at h; simp only [TV.on, keyEq, h, Bool.false_and]
  | .view g r p n, h => by simp only [TV.onD, nat_beq] at h; simp only [TV.on, keyEq, h, Bool.false_and]
  | .win r p l n, h => by simp only [TV.onD, nat_beq] at h; simp only [TV.on, keyEq, h, Bool.false_and]
  | .sh r q n, h => by simp only [TV.onD, nat_beq] at h; simp only [TV.on, keyEq, h, Bool.false_and]
  | .grd g tv, h => onD_of_on (tv := tv) h
  | .clo f caps, h => by
    simp only [TV.onD, List.any_eq_false] at h
    simp only [TV.on, List.any_eq_false]
    intro x hx
    have := h x hx
    cases x with
    | adr r p => simp only [nat_beq] at this; simp only [keyEq]; intro hh; rw [Bool.and_eq_true] at hh; exact this hh.1
    | fadr => simp

theorem safe_off {k : Key} {q : List Nat} {n : Nat} : ∀ {tv : TV}, tv.on k = false → tv.safe k q n = true
  | .val .., _ => rfl
  | .nil, _ => rfl
  | .fadr _, _ => rfl
  | .adr r p, h => by simp only [TV.on] at h; simp only [TV.safe, safeAdr, h, Bool.not_false, Bool.true_or]
  | .view g r p m, h => by simp only [TV.on] at h; simp only [TV.safe, h, Bool.not_false, Bool.true_or]
  | .win r p l m, h => by simp only [TV.on] at h; simp only [TV.safe, h, Bool.not_false, Bool.true_or]
  | .sh r q m, h => by simp only [TV.on] at h; simp only [TV.safe, h, Bool.not_false, Bool.true_or]
  | .grd g tv, h => safe_off (tv := tv) h
  | .clo f caps, h => by
    simp only [TV.on, List.any_eq_false] at h
    simp only [TV.safe, List.all_eq_true]
    intro x hx
    have := h x hx
    cases x with
    | adr r p => simp only [Bool.not_eq_true] at this; simp only [safeAdr, this, Bool.not_false, Bool.true_or]
    | fadr => rfl

section
variable {P : Program} {T : Tab} {ops : Array Oper} {st0 s : St}

/-- An operation that changes no root. -/
theorem gstep_q (hT : TabOk P T) {i d : Nat} {o : Oper} {G : Bool} {tv : TV} {pre : List OD} (h0 : noDup (keysE st0.env) = true) (ho : ops[i]? = some o) (hd : o.dst = some d) (hs : xs st0 pre = s)
    (hg : evGuardL s ops.toList o.guard = some G) (he : evQ T s G o.op = some tv) (hf : freshD d st0 = true) : GStep P ops st0 pre ⟨i, d, [((d, 0), bif isNoneG o.guard then tv else .grd G tv)], []⟩ := by
  intro X hp hX Z w0 E0 pins gr a w hr K Q' hK
  subst hs
  have hle := xs_le h0 hp hX.all hX.nd hr
  have hfx := xs_fresh (x := ⟨i, d, [((d, 0), bif isNoneG o.guard then tv else .grd G tv)], []⟩) hf hX
  simp only [freshD, Bool.and_eq_true] at hfx
  rw [evGuardL_eq] at hg
  refine evOp_ok hT hr ho (st' := xs st0 (⟨i, d, [((d, 0), bif isNoneG o.guard then tv else .grd G tv)], []⟩ :: X)) ?_ hK
  unfold evOp
  rw [hle.guard hg]
  simp only [hd, hle.evQ he, St.put?, St.put, xs, List.cons_append, List.nil_append, del_id hfx.1.1.1.1]
  rw [nat_blt, decide_eq_true_eq] at hfx
  rw [if_pos hfx.2]

theorem uses_nil : ∀ {rs : List PassR}, usesOf rs = [] → ∀ r, r ∈ rs → r.use = none
  | [], _, r, h => by cases h
  | x :: rs, h, r, hr => by
    simp only [usesOf] at h
    split at h
    · cases h
    · rename_i hu
      rcases List.mem_cons.1 hr with rfl | hr
      · exact hu
      · exact uses_nil h r hr

/-- A call that only reads what it is given. -/
theorem gstep_call (hT : TabOk P T) {i d : Nat} {o : Oper} {f : FuncId} {xs' : Array Operand} {ts : Array TypeId} {rs : List PassR} {R : List (Bool × List PV) → List (List PV) → Prop} {args : List PArg} {rets : List (Bool × List PV)} {outs : List (List PV)} {pre : List OD} (ms : List Md)
    (h0 : noDup (keysE st0.env) = true) (ho : ops[i]? = some o) (hop : o.op = .call ⟨.value (.func f), xs', ts⟩) (hd : o.dst = some d) (hs : xs st0 pre = s) (hg : evGuardL s ops.toList o.guard = some true)
    (hp : passAll T s ms xs'.toList ts.toList = some rs) (hok : okPass rs = true) (hu : usesOf rs = []) (hl : lendsOf rs = []) (hgood : Good P f args R) (hargs : rs.map PassR.x = args) (hR : ∀ r o, R r o → r = rets ∧ o = outs)
    (hc : cleanQ (frzOf rs) rets outs.flatten = true) (hf : freshD d st0 = true) : GStep P ops st0 pre ⟨i, d, newEnv d (startC rets) rets, newRoots d (startC rets) rets⟩ := by
  intro X hpx hX Z w0 E0 pins gr a w hr K Q' hK
  subst hs
  subst hargs
  have hle := xs_le h0 hpx hX.all hX.nd hr
  have hfx := xs_fresh (x := ⟨i, d, newEnv d (startC rets) rets, newRoots d (startC rets) rets⟩) hf hX
  simp only [freshD, Bool.and_eq_true] at hfx
  rw [evGuardL_eq] at hg
  refine wpOp_call (crs := []) (rs := rs) hT hr ho hop hd (hle.guard hg) rfl ms (hle.passAll hp) (by rw [List.append_nil]; exact hok) (by rw [List.append_nil]; exact hgood) ?_
  intro r o hq
  obtain ⟨rfl, rfl⟩ := hR r o hq
  refine ⟨xs st0 (⟨i, d, newEnv d (startC r) r, newRoots d (startC r) r⟩ :: X), ?_, hK⟩
  rw [List.append_nil]
  unfold back
  rw [hl, hc, hfx.1.2, hfx.2]
  simp only [Bool.true_and, cond_true, hu, St.behind, keepC_id hfx.1.1.1.1 hfx.1.1.1.2, keepRC_id hfx.1.1.2, xs]

/-! ### literals out of values that own nothing -/

def rowOf (st : St) (z : List PV) (x : Operand) : Option (List PV) :=
  match st.opv x with
  | some (.val _ row) => some row
  | some .nil => match z with
    | [.sl true sz 0 []] => some [.sl true sz 0 []]
    | _ => none
  | some (.view _ r p n) => match rlk st.roots r with
    | some R => bif isWhole R p n then none else match getP p R.row n with
      | some c => bif hasOwn c then none else some c
      | none => none
    | none => none
  | _ => none

def rowsOf (st : St) : List (Nat × TE × Operand) → Option (List (Nat × List PV))
  | [] => some []
  | (off, e, x) :: r => match rowOf st e.zero x, rowsOf st r with
    | some row, some l => bif Nat.beq row.length e.size then some ((off, row) :: l) else none
    | _, _ => none

def layAll : List PV → List (Nat × List PV) → Option (List PV)
  | row, [] => some row
  | row, (off, new) :: r => match setP [off] row new with
    | some row' => layAll row' r
    | none => none

theorem rowOf_le {s t : St} (h : Le s t) {z : List PV} {x : Operand} {v : List PV} (e : rowOf s z x = some v) : rowOf t z x = some v := by
  unfold rowOf at e ⊢
  split at e
  · rename_i h1; simp only [h.opv h1]; exact e
  · rename_i h1; simp only [h.opv h1]; exact e
  · rename_i h1
    simp only [h.opv h1]
    split at e
    · rename_i h2; simp only [h.roots _ _ h2]; exact e
    · cases e
  · cases e

theorem rowsOf_le {s t : St} (h : Le s t) : ∀ {l : List (Nat × TE × Operand)} {v : List (Nat × List PV)}, rowsOf s l = some v → rowsOf t l = some v
  | [], v, e => e
  | (off, te, x) :: r, v, e => by
    unfold rowsOf at e ⊢
    split at e
    · rename_i h1 h2; simp only [rowOf_le h h1, rowsOf_le h h2]; exact e
    · cases e

theorem src_fro {st : St} {sk : Key} {z : List PV} {x : Operand} {row : List PV} (h : rowOf st z x = some row) : ∃ agg, st.src sk z x = some (agg, st, .fro row) := by
  unfold rowOf at h
  unfold St.src
  split at h
  · rename_i h1; cases h; rw [h1]; exact ⟨_, rfl⟩
  · rename_i h1
    rw [h1]
    split at h
    · cases h; exact ⟨_, rfl⟩
    · cases h
  · rename_i h1
    rw [h1]
    simp only []
    split at h
    · rename_i R h2
      simp only [h2]
      cases hw : isWhole R _ _ with
      | true => rw [hw] at h; cases h
      | false =>
        rw [hw] at h
        simp only [cond_false] at h ⊢
        split at h
        · rename_i c hc
          rw [hc]
          simp only []
          cases ho : hasOwn c with
          | true => rw [ho] at h; cases h
          | false => rw [ho] at h; simp only [cond_false] at h ⊢; cases h; exact ⟨_, rfl⟩
        · cases h
    · cases h
  · cases h

/-- Rows laid into the value in flight at the head of the roots. -/
theorem laid_fro {d : Nat} {virt : Bool} {rest : List Root} (hrest : ∀ R, R ∈ rest → R.key ≠ (d, 0)) {env : List (Key × TV)} (henv : ∀ e, e ∈ env → e.2.on (d, 0) = false) {nt : Nat} {pk : List Key} :
    ∀ {ps : List (Nat × TE × Operand)} {rows : List (Nat × List PV)} {j : Nat} {row row' : List PV}, rowsOf ⟨env, rest, nt, pk⟩ ps = some rows → layAll row rows = some row' →
      laid ⟨env, ⟨(d, 0), virt, row⟩ :: rest, nt, pk⟩ d j ps = some ⟨env, ⟨(d, 0), virt, row'⟩ :: rest, nt, pk⟩
  | [], rows, j, row, row', h, h' => by
    simp only [rowsOf] at h
    cases h
    simp only [layAll] at h'
    cases h'
    rfl
  | (off, e, x) :: ps, rows, j, row, row', h, h' => by
    unfold rowsOf at h
    split at h
    · rename_i r l h1 h2
      cases hb : Nat.beq r.length e.size with
      | false => rw [hb] at h; cases h
      | true =>
        rw [hb] at h
        simp only [cond_true] at h
        cases h
        simp only [layAll] at h'
        split at h'
        · rename_i row1 hset
          have hro : rowOf ⟨env, ⟨(d, 0), virt, row⟩ :: rest, nt, pk⟩ e.zero x = some r := by
            unfold rowOf at h1 ⊢
            have hopv : ∀ rs, St.opv ⟨env, rs, nt, pk⟩ x = St.opv ⟨env, rest, nt, pk⟩ x := fun rs => by cases x <;> rfl
            rw [hopv]
            split at h1
            · exact h1
            · exact h1
            · rename_i agg k p n hv
              have hk : k ≠ (d, 0) := by
                cases x with
                | tmp t =>
                  have := henv _ (lk_mem hv)
                  exact keyEq_false.1 this
                | const v =>
                  simp only [St.opv, constTV] at hv
                  split at hv <;> cases hv
                | func f => cases hv
                | global g => cases hv
              have hl : rlk (⟨(d, 0), virt, row⟩ :: rest) k = rlk rest k := by
                simp only [rlk]
                by_cases ha : d = k.1
                · rw [if_pos ha]
                  by_cases hb : 0 = k.2
                  · exact absurd (by rw [ha, hb]) hk
                  · rw [if_neg hb]
                · rw [if_neg ha]
              simp only [hl]
              exact h1
            · cases h1
          obtain ⟨agg, hsrc⟩ := src_fro (sk := (d, j + 1)) hro
          unfold laid
          simp only [hsrc, St.srcRow, hb, cond_true, St.srcDrop]
          have hat : St.setAt ⟨env, ⟨(d, 0), virt, row⟩ :: rest, nt, pk⟩ (d, 0) [off] r = some ⟨env, ⟨(d, 0), virt, row1⟩ :: rest, nt, pk⟩ := by
            unfold St.setAt
            have hl : rlk (⟨(d, 0), virt, row⟩ :: rest) (d, 0) = some ⟨(d, 0), virt, row⟩ := by simp [rlk]
            have hk : keyEq (d, 0) (d, 0) = true := keyEq_iff.2 rfl
            simp only [hl, hset, setR, hk, cond_true, setR_id hrest]
            rw [keepE_id fun e he => safe_off (henv e he)]
          simp only [hat]
          exact laid_fro hrest henv h2 h'
        · cases h'
    · cases h

theorem St.add_fresh {st : St} {d : Nat} (hf : freshD d st = true) (virt : Bool) (row : List PV) : st.add (d, 0) virt row = some { st with roots := ⟨(d, 0), virt, row⟩ :: st.roots } := by
  simp only [freshD, Bool.and_eq_true] at hf
  unfold St.add
  have hpk : hasKey st.pk (d, 0) = false := by
    cases h : hasKey st.pk (d, 0) with
    | false => rfl
    | true =>
      have := hasKey_iff.1 h
      have hn : ∀ {l : List Key}, noD d l = true → (d, 0) ∈ l → False := by
        intro l
        induction l with
        | nil => intro _ h; cases h
        | cons k ks ih =>
          intro h1 h2
          simp only [noD, Bool.and_eq_true, Bool.not_eq_true', nat_beq, beq_eq_false_iff_ne] at h1
          rcases List.mem_cons.1 h2 with e | h2
          · exact h1.1 (by rw [← e])
          · exact ih h1.2 h2
      exact (hn hf.1.2 this).elim
  rw [hpk]
  simp only [cond_false]
  rw [keepE_id fun e he => by rw [onD_of_on (offD_iff.1 hf.1.1.1.2 e he)]; rfl, delR_id fun R hR hk => noRootD_iff.1 hf.1.1.2 R hR (by rw [hk])]

theorem fresh_env {st : St} {d : Nat} (hf : freshD d st = true) : ∀ e, e ∈ st.env → e.2.on (d, 0) = false := by
  simp only [freshD, Bool.and_eq_true] at hf
  exact fun e he => onD_of_on (offD_iff.1 hf.1.1.1.2 e he)
theorem fresh_roots {st : St} {d : Nat} (hf : freshD d st = true) : ∀ R, R ∈ st.roots → R.key ≠ (d, 0) := by
  simp only [freshD, Bool.and_eq_true] at hf
  exact fun R hR hk => noRootD_iff.1 hf.1.1.2 R hR (by rw [hk])
theorem fresh_put {st : St} {d : Nat} (hf : freshD d st = true) {rs : List Root} (tv : TV) : St.put { st with roots := rs } d tv = some { st with env := ((d, 0), tv) :: st.env, roots := rs } := by
  simp only [freshD, Bool.and_eq_true] at hf
  rw [nat_blt, decide_eq_true_eq] at hf
  simp only [St.put, if_pos hf.2, del_id hf.1.1.1.1]

/-- A struct literal. -/
theorem gstep_build (hT : TabOk P T) {i d t : Nat} {o : Oper} {parts : Array (Nat × Operand)} {e : TE} {ps : List (Nat × TE × Operand)} {rows : List (Nat × List PV)} {row : List PV} {pre : List OD} (h0 : noDup (keysE st0.env) = true) (ho : ops[i]? = some o) (hop : o.op = .build t parts) (hd : o.dst = some d)
    (hs : xs st0 pre = s) (hg : evGuardL s ops.toList o.guard = some true) (ht : T.get t = some e) (hps : fieldParts T t parts.toList = some ps) (ha : e.agg = true) (hrows : rowsOf s ps = some rows) (hrow : layAll e.zero rows = some row) (how : hasOwn row = false) (hf : freshD d st0 = true) :
    GStep P ops st0 pre ⟨i, d, [((d, 0), .val true row)], []⟩ := by
  intro X hp hX Z w0 E0 pins gr a w hr K Q' hK
  subst hs
  have hle := xs_le h0 hp hX.all hX.nd hr
  have hfx := xs_fresh (x := ⟨i, d, [((d, 0), .val true row)], []⟩) hf hX
  have hrows := rowsOf_le hle hrows
  rw [evGuardL_eq] at hg
  refine evOp_ok hT hr ho (st' := xs st0 (⟨i, d, [((d, 0), .val true row)], []⟩ :: X)) ?_ hK
  unfold evOp
  rw [hle.guard hg]
  have hq : evQ T (xs st0 X) true o.op = none := by rw [hop]; rfl
  simp only [hd, hq]
  generalize hst : xs st0 X = st at *
  have hl := laid_fro (d := d) (virt := true) (nt := st.nt) (pk := st.pk) (j := 0) (fresh_roots hfx) (fresh_env hfx) hrows hrow
  have hm : evM T st d o.type o.op = some (st, .val true row) := by
    rw [hop]
    simp only [evM, evBuild, ht, hps, ha, cond_true, St.add_fresh hfx, hl]
    have hlk : rlk (⟨(d, 0), true, row⟩ :: st.roots) (d, 0) = some ⟨(d, 0), true, row⟩ := by simp [rlk]
    have hk : keyEq (d, 0) (d, 0) = true := keyEq_iff.2 rfl
    simp only [hlk, how, cond_false, St.drop, delR, hk, cond_true, delR_id (fresh_roots hfx)]
    rw [keepE_id fun e he => by rw [fresh_env hfx e he]; rfl]
  simp only [hm, xs, hst, List.cons_append, List.nil_append]
  exact fresh_put hfx _

/-- A slice literal. -/
theorem gstep_bslice (hT : TabOk P T) {i d t len : Nat} {o : Oper} {parts : Array (Nat × Operand)} {e : TE} {rows : List (Nat × List PV)} {row : List PV} {pre : List OD} (h0 : noDup (keysE st0.env) = true) (ho : ops[i]? = some o) (hop : o.op = .buildSlice t len parts) (hd : o.dst = some d)
    (hs : xs st0 pre = s) (hg : evGuardL s ops.toList o.guard = some true) (ht : T.el t = some e) (hlen : Nat.ble (len * e.size) 16777216 = true) (hrows : rowsOf s (elemParts e parts.toList) = some rows) (hrow : layAll (List.replicate len e.zero).flatten rows = some row) (hf : freshD d st0 = true) :
    GStep P ops st0 pre ⟨i, d, [((d, 0), .view false (d, 0) [0] 1)], [⟨(d, 0), true, [.sl true e.size len row]⟩]⟩ := by
  intro X hp hX Z w0 E0 pins gr a w hr K Q' hK
  subst hs
  have hle := xs_le h0 hp hX.all hX.nd hr
  have hfx := xs_fresh (x := ⟨i, d, [((d, 0), .view false (d, 0) [0] 1)], [⟨(d, 0), true, [.sl true e.size len row]⟩]⟩) hf hX
  have hrows := rowsOf_le hle hrows
  rw [evGuardL_eq] at hg
  refine evOp_ok hT hr ho (st' := xs st0 (⟨i, d, [((d, 0), .view false (d, 0) [0] 1)], [⟨(d, 0), true, [.sl true e.size len row]⟩]⟩ :: X)) ?_ hK
  unfold evOp
  rw [hle.guard hg]
  have hq : evQ T (xs st0 X) true o.op = none := by rw [hop]; rfl
  simp only [hd, hq]
  generalize hst : xs st0 X = st at *
  have hl := laid_fro (d := d) (virt := true) (nt := st.nt) (pk := st.pk) (j := 0) (fresh_roots hfx) (fresh_env hfx) hrows hrow
  have hm : evM T st d o.type o.op = some ({ st with roots := ⟨(d, 0), true, [.sl true e.size len row]⟩ :: st.roots }, .view false (d, 0) [0] 1) := by
    rw [hop]
    simp only [evM, evBuildSlice, ht, hlen, cond_true, St.add_fresh hfx, hl, St.wrapSl, St.srcRow]
    have hlk : rlk (⟨(d, 0), true, row⟩ :: st.roots) (d, 0) = some ⟨(d, 0), true, row⟩ := by simp [rlk]
    have hk : keyEq (d, 0) (d, 0) = true := keyEq_iff.2 rfl
    have hdrop : St.drop ⟨st.env, ⟨(d, 0), true, row⟩ :: st.roots, st.nt, st.pk⟩ (d, 0) = st := by
      simp only [St.drop, delR, hk, cond_true, delR_id (fresh_roots hfx)]
      rw [keepE_id fun e he => by rw [fresh_env hfx e he]; rfl]
    simp only [hlk, cond_true, hdrop, St.add_fresh hfx]
  simp only [hm, xs, hst, List.cons_append, List.nil_append]
  exact fresh_put hfx _

/-- Bytes to a string. -/
theorem Le.elems {s t : St} (h : Le s t) {t2 sz : Nat} {x : Operand} {v : Elems} (e : s.elems T t2 sz x = some v) : t.elems T t2 sz x = some v := by
  unfold St.elems at e ⊢
  split at e
  · rename_i h0
    split at e
    · rename_i h1; simp only [h.opv h1]; exact e
    · rename_i h1; simp only [h.opv h1]; exact e
    · rename_i h1
      simp only [h.opv h1]
      split at e
      · rename_i h2; simp only [h.roots _ _ h2]; exact e
      · cases e
    · rename_i h1
      simp only [h.opv h1]
      split at e
      · rename_i h2; simp only [h.roots _ _ h2]; exact e
      · cases e
    · cases e
  · rename_i h0
    split at e
    · rename_i h1; simp only [h.sc h1]; exact e
    · cases e
  · cases e

theorem gstep_bytes (hT : TabOk P T) {i d sr ty : Nat} {x : Operand} {o : Oper} {tv : TV} {pre : List OD} (h0 : noDup (keysE st0.env) = true) (ho : ops[i]? = some o) (hop : o.op = .convert sr ty x) (hd : o.dst = some d)
    (hs : xs st0 pre = s) (hg : evGuardL s ops.toList o.guard = some true) (hb : evBytesStr T s sr ty x = some tv) (hf : freshD d st0 = true) : GStep P ops st0 pre ⟨i, d, [((d, 0), tv)], []⟩ := by
  intro X hp hX Z w0 E0 pins gr a w hr K Q' hK
  subst hs
  have hle := xs_le h0 hp hX.all hX.nd hr
  have hfx := xs_fresh (x := ⟨i, d, [((d, 0), tv)], []⟩) hf hX
  rw [evGuardL_eq] at hg
  have hb' : evBytesStr T (xs st0 X) sr ty x = some tv := by
    unfold evBytesStr at hb ⊢
    split at hb
    · rename_i h1 h2
      split at hb
      · rename_i h3; simp only [hle.elems h3]; exact hb
      · cases hb
    · cases hb
  have hq : evQ T (xs st0 X) true o.op = none := by
    rw [hop]
    simp only [evQ, evConv]
    unfold evBytesStr at hb'
    split at hb'
    · rename_i h1 h2
      have : ∃ el, (T.get sr).map TE.kind = some (.slice el) := by
        unfold Tab.el at h1
        split at h1
        · rename_i h3; rw [h3]; exact ⟨_, rfl⟩
        · cases h1
      obtain ⟨el, hel⟩ := this
      split
      · rename_i h3 _ _; rw [h3] at hel; cases hel
      · rename_i h3 _ _; rw [h3] at hel; cases hel
      · rfl
    · cases hb'
  refine evOp_ok hT hr ho (st' := xs st0 (⟨i, d, [((d, 0), tv)], []⟩ :: X)) ?_ hK
  unfold evOp
  rw [hle.guard hg]
  simp only [hd, hq]
  have hm : evM T (xs st0 X) d o.type o.op = some (xs st0 X, tv) := by
    rw [hop]; simp only [evM, hb', Option.map_some]
  simp only [hm, xs, List.cons_append, List.nil_append]
  exact fresh_put (rs := (xs st0 X).roots) hfx tv
end

end Go.Proofs.YtddfcajdelfikaaDoor.Vm
