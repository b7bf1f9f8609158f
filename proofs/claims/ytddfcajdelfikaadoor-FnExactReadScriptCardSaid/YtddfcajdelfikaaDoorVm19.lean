/- Calls: how arguments are handed over, what the state is behind the call. -/
import Derived.Test.YtddfcajdelfikaaDoorVm18
set_option linter.unusedVariables false
set_option linter.unusedSimpArgs false
set_option linter.unusedSectionVars false
namespace Go.Proofs.YtddfcajdelfikaaDoor.Vm
open Go
open GV (absL extsL fzL)
open PV (frzL)

/-! ### the words -/

inductive Md where
  | val | own | ino
  | ref (n : Nat)
  | fptr (n : Nat)
  | clo

structure PassR where
  x : PArg
  use : Option Key
  lend : Option (Key × List Nat × Nat × Bool)
  frz : List Key

def capRow (st : St) : Cap → Option (List PV × List Key)
  | .fadr row => some (row, [])
  | .adr r [o] => match rlk st.roots r with
    | some R => bif R.virt then none else some ((frzL R.row).drop o, [r])
    | none => none
  | _ => none

def capRows (st : St) : List Cap → Option (List (List PV) × List Key)
  | [] => some ([], [])
  | c :: cs => match capRow st c, capRows st cs with
    | some (r, k), some (rs, ks) => some (r :: rs, k ++ ks)
    | _, _ => none

def capsPass (st : St) : List Cap → Option (List PassR)
  | [] => some []
  | c :: cs => match capRow st c, capsPass st cs with
    | some (r, k), some rs => some (⟨.fptr r, none, none, k⟩ :: rs)
    | _, _ => none

def passVal (T : Tab) (st : St) (op : Operand) (ty : Nat) : Option PassR :=
  match st.opg true op with
  | some (.val agg row) => some ⟨.val agg row, none, none, []⟩
  | some .nil => match T.el ty with
    | some e => some ⟨.val false [.sl false e.size 0 []], none, none, []⟩
    | none => none
  | some (.view agg r p n) => match rlk st.roots r with
    | some R => match getP p R.row n with
      | some c => some ⟨.val agg (frzL c), none, none, [r]⟩
      | none => none
    | none => none
  | some (.win r p lo n) => match rlk st.roots r with
    | some R => match getP p R.row 1 with
      | some [.sl true sz m cells] => some ⟨.val false [.sl false sz n (frzL (sub cells (lo * sz) (n * sz)))], none, none, [r]⟩
      | _ => none
    | none => none
  | _ => none

def passOwn (T : Tab) (st : St) (op : Operand) (ty : Nat) : Option PassR :=
  match st.opg true op with
  | some (.val agg row) => some ⟨.own agg row, none, none, []⟩
  | some .nil => match T.el ty with
    | some e => some ⟨.own false [.sl true e.size 0 []], none, none, []⟩
    | none => none
  | some (.view agg r p n) => match rlk st.roots r with
    | some R => bif isWhole R p n && !hasKey st.pk r then some ⟨.own agg R.row, some r, none, []⟩ else none
    | none => none
  | _ => none

def passOne (T : Tab) (st : St) (m : Md) (op : Operand) (ty : Nat) : Option PassR :=
  match m with
  | .val => passVal T st op ty
  | .own => passOwn T st op ty
  | .ino => match st.opg true op with
    | some (.view agg r p n) => match rlk st.roots r with
      | some R => match getP p R.row n with
        | some row => match setP p R.row row with
          | some _ => some ⟨.ino agg row, none, some (r, p, n, false), []⟩
          | none => none
        | none => none
      | none => none
    | _ => none
  | .ref n => match st.opg true op with
    | some (.adr r p) => match rlk st.roots r with
      | some R => match getP p R.row n with
        | some row => match setP p R.row row with
          | some _ => some ⟨.ref row, none, some (r, p, n, true), []⟩
          | none => none
        | none => none
      | none => none
    | _ => none
  | .fptr n => match st.opg true op with
    | some (.fadr row) => some ⟨.fptr row, none, none, []⟩
    | some (.adr r p) => match rlk st.roots r with
      | some R => match getP p R.row n with
        | some row => match setP p R.row row with
          | some _ => some ⟨.fptr (frzL row), none, none, [r]⟩
          | none => none
        | none => none
      | none => none
    | _ => none
  | .clo => match st.opg true op with
    | some (.clo f caps) => match capRows st caps with
      | some (rows, ks) => some ⟨.clo f rows, none, none, ks⟩
      | none => none
    | _ => none

def passAll (T : Tab) (st : St) : List Md → List Operand → List Nat → Option (List PassR)
  | [], [], [] => some []
  | m :: ms, x :: xs, t :: ts => match passOne T st m x t, passAll T st ms xs ts with
    | some r, some rs => some (r :: rs)
    | _, _ => none
  | _, _, _ => none

def usesOf : List PassR → List Key
  | [] => []
  | r :: rs => match r.use with
    | some k => k :: usesOf rs
    | none => usesOf rs

def lendsOf : List PassR → List (Key × List Nat × Nat × Bool)
  | [] => []
  | r :: rs => match r.lend with
    | some k => k :: lendsOf rs
    | none => lendsOf rs

def frzOf : List PassR → List Key
  | [] => []
  | r :: rs => r.frz ++ frzOf rs

def noDup : List Key → Bool
  | [] => true
  | k :: ks => !hasKey ks k && noDup ks

def noneIn (ks : List Key) : List Key → Bool
  | [] => true
  | k :: r => !hasKey ks k && noneIn ks r

def okPass (rs : List PassR) : Bool :=
  match lendsOf rs with
  | [] => noDup (usesOf rs) && noneIn (usesOf rs) (frzOf rs)
  | [(k, _, _, _)] => noDup (k :: usesOf rs) && noneIn (k :: usesOf rs) (frzOf rs)
  | _ => false

/-- A term that stays when cells deeper than a path have changed, and the cells at the path bear the same values. -/
def TV.safeI (k : Key) (q : List Nat) (n : Nat) : TV → Bool
  | .adr r p => safeAdr k q n r p
  | .view _ r p m => !keyEq r k || Nat.ble p.length q.length || apart1 q p n m
  | .win r p _ _ => !keyEq r k || Nat.blt p.length q.length || apart1 q p n 1
  | .sh r p m => !keyEq r k || Nat.ble 1 q.length || apart1 q [p] n m
  | .clo _ caps => caps.all fun c => match c with | .adr r p => safeAdr k q n r p | .fadr _ => true
  | .grd _ tv => tv.safeI k q n
  | _ => true

def TV.onD (d : Nat) : TV → Bool
  | .adr r _ => Nat.beq r.1 d
  | .view _ r _ _ => Nat.beq r.1 d
  | .win r _ _ _ => Nat.beq r.1 d
  | .sh r _ _ => Nat.beq r.1 d
  | .clo _ caps => caps.any fun c => match c with | .adr r _ => Nat.beq r.1 d | .fadr _ => false
  | .grd _ tv => tv.onD d
  | _ => false

def TV.onAny (ks : List Key) (tv : TV) : Bool :=
  match ks with
  | [] => false
  | k :: ks => tv.on k || tv.onAny ks

/-- Entries that stay behind a call. -/
def keepC (d : Nat) (us : List Key) (f : TV → Bool) : List (Key × TV) → List (Key × TV)
  | [] => []
  | e :: r => bif Nat.beq e.1.1 d || e.2.onD d || e.2.onAny us || !f e.2 then keepC d us f r else e :: keepC d us f r

/-- Roots that stay behind a call. -/
def keepRC (d : Nat) (us : List Key) : List Root → List Root
  | [] => []
  | R :: r => bif Nat.beq R.key.1 d || hasKey us R.key then keepRC d us r else R :: keepRC d us r

def newEnv (d : Nat) : Nat → List (Bool × List PV) → List (Key × TV)
  | _, [] => []
  | c, (agg, row) :: r => ((d, c), bif hasOwn row then .view agg (d, c) [0] row.length else .val agg row) :: newEnv d (c + 1) r

def newRoots (d : Nat) : Nat → List (Bool × List PV) → List Root
  | _, [] => []
  | c, (agg, row) :: r => bif hasOwn row then ⟨(d, c), true, row⟩ :: newRoots d (c + 1) r else newRoots d (c + 1) r

def startC : List (Bool × List PV) → Nat
  | [_] => 0
  | _ => 1

def cleanR : List (Bool × List PV) → Bool
  | [] => true
  | r :: rs => PV.cleanL r.2 && cleanR rs

def noD (d : Nat) : List Key → Bool
  | [] => true
  | k :: ks => !Nat.beq k.1 d && noD d ks

def St.behind (st : St) (d : Nat) (us : List Key) (f : TV → Bool) (roots : List Root) (rets : List (Bool × List PV)) : St :=
  { st with env := newEnv d (startC rets) rets ++ keepC d us f st.env, roots := newRoots d (startC rets) rets ++ keepRC d us roots }

/-- Nothing of what was lent to be read may come back. -/
def cleanQ : List Key → List (Bool × List PV) → List PV → Bool
  | [], _, _ => true
  | _ :: _, rets, out => cleanR rets && PV.cleanL out

/-- What stays where a part of a root was lent. -/
def safeQ (isRef : Bool) (k : Key) (p : List Nat) (n : Nat) : TV → Bool :=
  match isRef with
  | true => TV.safe k p n
  | false => TV.safeI k p n

/-- The state behind a call. -/
def back (st : St) (rs : List PassR) (d : Nat) (rets : List (Bool × List PV)) (outs : List (List PV)) : Option St :=
  bif cleanQ (frzOf rs) rets outs.flatten && noD d st.pk && Nat.blt d st.nt then
    (match lendsOf rs with
    | [] => some (st.behind d (usesOf rs) (fun _ => true) st.roots rets)
    | (k, p, n, isRef) :: _ => bif Nat.beq k.1 d then none else
      (match rlk st.roots k with
      | some R => match setP p R.row outs.flatten with
        | some row => some (st.behind d (usesOf rs) (safeQ isRef k p n) (setR st.roots k row) rets)
        | none => none
      | none => none)) else none

/-! ### what is safe stays -/

theorem setG_getG_same : ∀ {q p : List Nat} {row old new row' gs : List GV} {m : Nat}, getG q row new.length = some old → setG q row new = some row' → new.map GV.val = old.map GV.val → p.length ≤ q.length →
    getG p row m = some gs → ∃ gs', getG p row' m = some gs' ∧ gs'.map GV.val = gs.map GV.val
  | _, [], _, _, _, _, _, _, _, _, _, _, h => by cases h
  | q, [o], row, old, new, row', gs, m, hg, h, hv, _, hp => by
    have hvals := setG_same_vals hg h hv
    have hlen : row'.length = row.length := by simpa using congrArg List.length hvals
    simp only [getG] at hp ⊢
    split at hp
    · rename_i hl
      cases hp
      exact ⟨(row'.drop o).take m, by rw [if_pos (by omega)], by rw [List.map_take, List.map_drop, hvals, List.map_take, List.map_drop]⟩
    · cases hp
  | [], _ :: _ :: _, _, _, _, _, _, _, h, _, _, _, _ => by cases h
  | [_], _ :: _ :: _, _, _, _, _, _, _, _, _, _, hl, _ => by simp at hl
  | b :: b' :: q, a :: a' :: p, row, old, new, row', gs, m, hg, h, hv, hl, hp => by
    simp only [getG] at hg hp
    simp only [setG] at h
    split at h
    · rename_i sz n cap x cells hb
      simp only [hb] at hg
      simp only [Option.map_eq_some_iff] at h
      obtain ⟨c, hc, rfl⟩ := h
      simp only [getG]
      rw [List.getElem?_set]
      have hbl : b < row.length := (List.getElem?_eq_some_iff.1 hb).1
      by_cases hab : b = a
      · subst hab
        rw [if_pos rfl, if_pos hbl]
        simp only [hb] at hp
        exact setG_getG_same hg hc hv (by simpa using hl) hp
      · rw [if_neg hab]
        exact ⟨gs, hp, rfl⟩
    · cases h

theorem TV.safeI_keeps {gr gr' : List GR} {k : Key} {q : List Nat} {n : Nat}
    (hs : ∀ R, R ∈ gr → R.key ≠ k → R ∈ gr') (hk : ∀ R, R ∈ gr → R.key = k → ∃ R' old new, R' ∈ gr' ∧ R'.key = k ∧ R'.loc = R.loc ∧ getG q R.row new.length = some old ∧ setG q R.row new = some R'.row ∧ new.map GV.val = old.map GV.val ∧ new.length = n) :
    ∀ {tv : TV}, tv.safeI k q n = true → KeepsTV gr gr' tv := by
  have adr : ∀ r p, safeAdr k q n r p = true → KeepsAdr gr gr' r p := by
    intro r p h R hR hr
    by_cases hrk : r = k
    · obtain ⟨R', old, new, h1, h2, h3, _, h4, _, hn⟩ := hk R hR (hr.trans hrk)
      subst hn
      refine ⟨R', h1, h2.trans hrk.symm, h3, fun x hx => ?_⟩
      rw [h3]
      simp only [safeAdr, keyEq_iff.2 hrk, Bool.not_true, Bool.false_or, Bool.or_eq_true, Nat.ble_eq] at h
      rcases h with h | h
      · exact setG_addrG_short h4 h hx
      · rw [setG_addrG_apart h4 h]; exact hx
    · exact ⟨R, hs R hR (by rw [hr]; exact hrk), hr, rfl, fun x h => h⟩
  intro tv h
  induction tv with
  | val => trivial
  | nil => trivial
  | adr r p => exact adr r p h
  | view agg r p m =>
    intro R hR hr
    by_cases hrk : r = k
    · obtain ⟨R', old, new, h1, h2, h3, h5, h4, h6, hn⟩ := hk R hR (hr.trans hrk)
      subst hn
      refine ⟨R', h1, h2.trans hrk.symm, h3, fun gs hg => ?_⟩
      simp only [TV.safeI, keyEq_iff.2 hrk, Bool.not_true, Bool.false_or, Bool.or_eq_true, Nat.ble_eq] at h
      rcases h with h | h
      · exact setG_getG_same h5 h4 h6 h hg
      · exact ⟨gs, by rw [setG_getG_apart h4 h]; exact hg, rfl⟩
    · exact ⟨R, hs R hR (by rw [hr]; exact hrk), hr, rfl, fun gs h => ⟨gs, h, rfl⟩⟩
  | sh r q0 m =>
    intro R hR hr
    by_cases hrk : r = k
    · obtain ⟨R', old, new, h1, h2, h3, h5, h4, h6, hn⟩ := hk R hR (hr.trans hrk)
      subst hn
      refine ⟨R', h1, h2.trans hrk.symm, h3, fun gs hg => ?_⟩
      simp only [TV.safeI, keyEq_iff.2 hrk, Bool.not_true, Bool.false_or, Bool.or_eq_true, Nat.ble_eq] at h
      rcases h with h | h
      · exact setG_getG_same h5 h4 h6 (by simpa using h) hg
      · exact ⟨gs, by rw [setG_getG_apart h4 h]; exact hg, rfl⟩
    · exact ⟨R, hs R hR (by rw [hr]; exact hrk), hr, rfl, fun gs h => ⟨gs, h, rfl⟩⟩
  | win r p lo m =>
    intro R hR hr
    by_cases hrk : r = k
    · obtain ⟨R', old, new, h1, h2, h3, h5, h4, h6, hn⟩ := hk R hR (hr.trans hrk)
      subst hn
      refine ⟨R', h1, h2.trans hrk.symm, h3, fun sz m cap a cells hg => ?_⟩
      simp only [TV.safeI, keyEq_iff.2 hrk, Bool.not_true, Bool.false_or, Bool.or_eq_true, Nat.blt_eq] at h
      rcases h with h | h
      · exact getG_win_short h4 h hg
      · exact ⟨cells, by rw [setG_getG_apart h4 h]; exact hg⟩
    · exact ⟨R, hs R hR (by rw [hr]; exact hrk), hr, rfl, fun sz m cap a cells h => ⟨cells, h⟩⟩
  | fadr => trivial
  | clo f caps =>
    intro c hc
    cases c with
    | adr r p =>
      simp only [TV.safeI, List.all_eq_true] at h
      exact adr r p (h _ hc)
    | fadr _ => trivial
  | grd g tv ih => exact ih h

/-- A term stays where none of the roots goes that it looks at. -/
theorem TV.keeps_of {gr gr' : List GR} {Gone : Key → Prop} (hs : ∀ R, R ∈ gr → ¬ Gone R.key → R ∈ gr') : ∀ {tv : TV}, (∀ k, tv.on k = true → ¬ Gone k) → KeepsTV gr gr' tv := by
  have adr : ∀ r p, ¬ Gone r → KeepsAdr gr gr' r p := fun r p h R hR hr => ⟨R, hs R hR (by rw [hr]; exact h), hr, rfl, fun x h => h⟩
  intro tv h
  induction tv with
  | val => trivial
  | nil => trivial
  | adr r p => exact adr r p (h r (by simp [TV.on, keyEq_iff.2]))
  | view agg r p n => exact fun R hR hr => ⟨R, hs R hR (by rw [hr]; exact h r (by simp [TV.on, keyEq_iff.2])), hr, rfl, fun gs h => ⟨gs, h, rfl⟩⟩
  | sh r q m => exact fun R hR hr => ⟨R, hs R hR (by rw [hr]; exact h r (by simp [TV.on, keyEq_iff.2])), hr, rfl, fun gs h => ⟨gs, h, rfl⟩⟩
  | win r p lo n => exact fun R hR hr => ⟨R, hs R hR (by rw [hr]; exact h r (by simp [TV.on, keyEq_iff.2])), hr, rfl, fun sz m cap a cells h => ⟨cells, h⟩⟩
  | fadr => trivial
  | clo f caps =>
    intro c hc
    cases c with
    | adr r p =>
      refine adr r p (h r ?_)
      simp only [TV.on, List.any_eq_true]
      exact ⟨_, hc, keyEq_iff.2 rfl⟩
    | fadr _ => trivial
  | grd g tv ih => exact ih h

theorem mem_keepC {d : Nat} {us : List Key} {f : TV → Bool} : ∀ {env : List (Key × TV)} {e : Key × TV}, e ∈ keepC d us f env → e ∈ env ∧ e.1.1 ≠ d ∧ e.2.onD d = false ∧ e.2.onAny us = false ∧ f e.2 = true
  | [], _, h => by cases h
  | e0 :: env, e, h => by
    simp only [keepC] at h
    cases hc : (Nat.beq e0.1.1 d || e0.2.onD d || e0.2.onAny us || !f e0.2) with
    | true =>
      rw [hc] at h
      obtain ⟨h1, h2⟩ := mem_keepC h
      exact ⟨List.mem_cons_of_mem _ h1, h2⟩
    | false =>
      rw [hc] at h
      simp only [cond_false] at h
      rcases List.mem_cons.1 h with rfl | h
      · simp only [Bool.or_eq_false_iff, Bool.not_eq_false'] at hc
        refine ⟨List.mem_cons_self, fun e => ?_, hc.1.1.2, hc.1.2, hc.2⟩
        have := hc.1.1.1
        rw [e] at this
        simp at this
      · obtain ⟨h1, h2⟩ := mem_keepC h
        exact ⟨List.mem_cons_of_mem _ h1, h2⟩

theorem TV.onAny_false {us : List Key} {tv : TV} (h : tv.onAny us = false) : ∀ k, k ∈ us → tv.on k = false := by
  induction us with
  | nil => intro k hk; cases hk
  | cons u us ih =>
    simp only [TV.onAny, Bool.or_eq_false_iff] at h
    intro k hk
    rcases List.mem_cons.1 hk with rfl | hk
    · exact h.1
    · exact ih h.2 k hk

theorem TV.onD_of_on {d : Nat} : ∀ {tv : TV} {k : Key}, tv.on k = true → k.1 = d → tv.onD d = true := by
  intro tv k h hd
  induction tv with
  | val => simp [TV.on] at h
  | nil => simp [TV.on] at h
  | adr r p => simp only [TV.on] at h; rw [keyEq_iff] at h; subst h; simp [TV.onD, hd]
  | view agg r p n => simp only [TV.on] at h; rw [keyEq_iff] at h; subst h; simp [TV.onD, hd]
  | sh r q m => simp only [TV.on] at h; rw [keyEq_iff] at h; subst h; simp [TV.onD, hd]
  | win r p lo n => simp only [TV.on] at h; rw [keyEq_iff] at h; subst h; simp [TV.onD, hd]
  | fadr => simp [TV.on] at h
  | clo f caps =>
    simp only [TV.on, TV.onD, List.any_eq_true] at h ⊢
    obtain ⟨c, h1, h2⟩ := h
    refine ⟨c, h1, ?_⟩
    cases c with
    | adr r p => simp only [] at h2 ⊢; rw [keyEq_iff] at h2; subst h2; simp [hd]
    | fadr _ => cases h2
  | grd g tv ih => exact ih h

end Go.Proofs.YtddfcajdelfikaaDoor.Vm
