/- Loops whose rounds are told by a function; joins; states cut down to what is needed; tuples moved. -/
import Derived.Test.YtddfcajdelfikaaDoorVm30
set_option linter.unusedVariables false
set_option linter.unusedSimpArgs false
set_option linter.unusedSectionVars false
namespace Go.Proofs.YtddfcajdelfikaaDoor.Vm
open Go
open GV (absL extsL fzL)
open PV (frzL)

/-! ### functions that go round -/

def loopN {σ ρ : Type} (step : σ → Option (σ ⊕ ρ)) : Nat → σ → Option ρ
  | 0, _ => none
  | n + 1, s => match step s with
    | none => none
    | some (.inl s') => loopN step n s'
    | some (.inr r) => some r

theorem loopN_mono {σ ρ : Type} {step : σ → Option (σ ⊕ ρ)} : ∀ {n m : Nat} {s : σ} {r : ρ}, loopN step n s = some r → n ≤ m → loopN step m s = some r
  | 0, _, _, _, h, _ => by cases h
  | n + 1, 0, _, _, _, h => by omega
  | n + 1, m + 1, s, r, h, hle => by
    simp only [loopN] at h ⊢
    split at h
    · cases h
    · exact loopN_mono h (by omega)
    · exact h

open Classical in
noncomputable def loopC {σ ρ : Type} (step : σ → Option (σ ⊕ ρ)) (s : σ) : Option ρ :=
  if h : ∃ n r, loopN step n s = some r then some h.choose_spec.choose else none

theorem loopC_iff {σ ρ : Type} {step : σ → Option (σ ⊕ ρ)} {s : σ} {r : ρ} : loopC step s = some r ↔ ∃ n, loopN step n s = some r := by
  unfold loopC
  constructor
  · intro h
    split at h
    · rename_i hx
      cases h
      exact ⟨_, hx.choose_spec.choose_spec⟩
    · cases h
  · rintro ⟨n, h⟩
    have hx : ∃ n r, loopN step n s = some r := ⟨n, r, h⟩
    rw [dif_pos hx]
    have h1 := hx.choose_spec.choose_spec
    generalize hx.choose_spec.choose = r' at *
    have e1 := loopN_mono h1 (Nat.le_max_left _ n)
    have e2 := loopN_mono h (Nat.le_max_right hx.choose n)
    rw [e1] at e2
    exact e2

theorem loopC_eq {σ ρ : Type} (step : σ → Option (σ ⊕ ρ)) (s : σ) : loopC step s = (match step s with
    | none => none
    | some (.inl s') => loopC step s'
    | some (.inr r) => some r) := by
  apply Option.ext
  intro r
  rw [loopC_iff]
  constructor
  · rintro ⟨n, h⟩
    cases n with
    | zero => cases h
    | succ n =>
      simp only [loopN] at h
      split at h
      · cases h
      · exact loopC_iff.2 ⟨n, h⟩
      · exact h
  · intro h
    split at h
    · cases h
    · rename_i s' hs
      obtain ⟨n, hn⟩ := loopC_iff.1 h
      exact ⟨n + 1, by simp only [loopN, hs, hn]⟩
    · rename_i r' hs
      exact ⟨1, by simp only [loopN, hs]; exact h⟩

/-- A function that calls itself, told by how deep. -/
def recN {α β : Type} (body : (α → Option β) → α → Option β) : Nat → α → Option β
  | 0, _ => none
  | n + 1, a => body (recN body n) a

theorem of_bind {α β : Type} {a : Option α} {f : α → Option β} {r : β} (h : a.bind f = some r) : ∃ x, a = some x ∧ f x = some r := by
  cases a with
  | none => cases h
  | some x => exact ⟨x, rfl, h⟩

theorem of_chk {β : Type} {c : Bool} {x : Option β} {r : β} (h : (bif c then x else none) = some r) : c = true ∧ x = some r := by
  cases c with
  | true => exact ⟨rfl, h⟩
  | false => cases h

theorem of_bif {β : Type} {c : Bool} {x y : Option β} {r : β} (h : (bif c then x else y) = some r) : (c = true ∧ x = some r) ∨ (c = false ∧ y = some r) := by
  cases c with
  | true => exact .inl ⟨rfl, h⟩
  | false => exact .inr ⟨rfl, h⟩

/-! ### the state cut down -/

def getE (env : List (Key × TV)) : List Key → Option (List (Key × TV))
  | [] => some []
  | k :: ks => match lk env k.1 k.2, getE env ks with
    | some tv, some r => some ((k, tv) :: r)
    | _, _ => none

def getR (roots : List Root) : List Key → Option (List Root)
  | [] => some []
  | k :: ks => match rlk roots k, getR roots ks with
    | some R, some r => some (R :: r)
    | _, _ => none

def otherK (ks : List Key) : List Root → List Key
  | [] => []
  | R :: r => bif hasKey ks R.key then otherK ks r else R.key :: otherK ks r

def offKs (env : List (Key × TV)) : List Key → Bool
  | [] => true
  | k :: ks => offK k env && offKs env ks
  where offK (k : Key) : List (Key × TV) → Bool
  | [] => true
  | e :: r => !e.2.on k && offK k r

/-- What is kept: entries and roots, by their keys, in this order. -/
def restr (s : St) (es rs : List Key) : Option St :=
  match getE s.env es, getR s.roots rs with
  | some env', some roots' => bif offKs env' (otherK rs s.roots) && noDup rs then some ⟨env', roots', s.nt, s.pk⟩ else none
  | _, _ => none

theorem getE_sub {env : List (Key × TV)} : ∀ {ks : List Key} {env' : List (Key × TV)}, getE env ks = some env' → SubE env env'
  | [], env', h => by simp only [getE] at h; cases h; trivial
  | k :: ks, env', h => by
    simp only [getE] at h
    split at h
    · rename_i h1 h2
      cases h
      exact ⟨h1, getE_sub h2⟩
    · cases h

theorem getR_mem {roots : List Root} : ∀ {ks : List Key} {r : List Root}, getR roots ks = some r → r.map Root.key = ks ∧ ∀ R, R ∈ r → R ∈ roots
  | [], r, h => by simp only [getR] at h; cases h; exact ⟨rfl, fun R h => by cases h⟩
  | k :: ks, r, h => by
    simp only [getR] at h
    split at h
    · rename_i R r' h1 h2
      cases h
      obtain ⟨a1, a2⟩ := rlk_mem h1
      obtain ⟨b1, b2⟩ := getR_mem h2
      refine ⟨by simp [a2, b1], fun S hS => ?_⟩
      rcases List.mem_cons.1 hS with rfl | hS
      · exact a1
      · exact b2 S hS
    · cases h

theorem offK_iff {k : Key} : ∀ {env : List (Key × TV)}, offKs.offK k env = true → ∀ e, e ∈ env → e.2.on k = false
  | [], _, e, h => by cases h
  | x :: r, h, e, he => by
    simp only [offKs.offK, Bool.and_eq_true, Bool.not_eq_true'] at h
    rcases List.mem_cons.1 he with rfl | he
    · exact h.1
    · exact offK_iff h.2 e he

theorem dropAll_of {s : St} : ∀ {ks : List Key}, offKs s.env ks = true → (dropAll s ks).env = s.env ∧ (dropAll s ks).nt = s.nt ∧ (dropAll s ks).pk = s.pk
  | [], _ => ⟨rfl, rfl, rfl⟩
  | k :: ks, h => by
    simp only [offKs, Bool.and_eq_true] at h
    have he : (s.drop k).env = s.env := keepE_id fun e he => by rw [offK_iff h.1 e he]; rfl
    obtain ⟨h1, h2, h3⟩ := dropAll_of (s := s.drop k) (ks := ks) (by rw [he]; exact h.2)
    simp only [dropAll]
    exact ⟨h1.trans he, h2, h3⟩

theorem dropAll_roots : ∀ {ks : List Key} {s : St} {R : Root}, R ∈ (dropAll s ks).roots ↔ R ∈ s.roots ∧ R.key ∉ ks
  | [], s, R => by simp [dropAll]
  | k :: ks, s, R => by
    simp only [dropAll, dropAll_roots (ks := ks), St.drop, mem_delR, List.mem_cons, not_or]
    constructor
    · rintro ⟨⟨h1, h2⟩, h3⟩; exact ⟨h1, h2, h3⟩
    · rintro ⟨h1, h2, h3⟩; exact ⟨⟨h1, h2⟩, h3⟩

theorem mem_otherK {ks : List Key} {k : Key} : ∀ {rs : List Root}, k ∈ otherK ks rs → k ∉ ks
  | [], h => by cases h
  | R :: r, h => by
    simp only [otherK] at h
    cases hh : hasKey ks R.key with
    | true => rw [hh] at h; exact mem_otherK h
    | false =>
      rw [hh] at h
      rcases List.mem_cons.1 h with rfl | h
      · intro hm; rw [hasKey_iff.2 hm] at hh; cases hh
      · exact mem_otherK h

theorem otherK_mem {ks : List Key} : ∀ {rs : List Root} {R : Root}, R ∈ rs → R.key ∉ otherK ks rs → R.key ∈ ks
  | [], _, h, _ => by cases h
  | S :: r, R, h, hn => by
    simp only [otherK] at hn
    cases hh : hasKey ks S.key with
    | true =>
      rw [hh] at hn
      rcases List.mem_cons.1 h with rfl | h
      · exact hasKey_iff.1 hh
      · exact otherK_mem h hn
    | false =>
      rw [hh] at hn
      simp only [cond_false, List.mem_cons, not_or] at hn
      rcases List.mem_cons.1 h with rfl | h
      · exact absurd rfl hn.1
      · exact otherK_mem h hn.2

theorem into_r {s s' : St} (es rs : List Key) (h : restr s es rs = some s') : Into s s' := by
  unfold restr at h
  split at h
  · rename_i env' roots' h1 h2
    cases hb : offKs env' (otherK rs s.roots) && noDup rs with
    | false => rw [hb] at h; cases h
    | true =>
      rw [hb] at h
      cases h
      simp only [Bool.and_eq_true] at hb
      have i1 : Into s { s with env := env' } := into_sub (roots' := s.roots) (getE_sub h1) (List.Perm.refl _)
      have i2 := into_drops { s with env := env' } (otherK rs s.roots)
      obtain ⟨d1, d2, d3⟩ := dropAll_of (s := { s with env := env' }) hb.1
      intro Z w0 E0 pins gr a w hr
      obtain ⟨gr2, hr2⟩ := (i1.trans i2) Z w0 E0 pins gr a w hr
      have hk : ((dropAll { s with env := env' } (otherK rs s.roots)).roots.map Root.key).Nodup := by
        rw [hr2.roots, List.map_map]; exact hr2.keys
      obtain ⟨m1, m2⟩ := getR_mem h2
      have hrn : (roots'.map Root.key).Nodup := by rw [m1]; exact noDup_iff hb.2
      have hks : (s.roots.map Root.key).Nodup := by rw [hr.roots, List.map_map]; exact hr.keys
      have hp : roots'.Perm (dropAll { s with env := env' } (otherK rs s.roots)).roots := by
        refine (List.perm_ext_iff_of_nodup (nodup_of_map _ hrn) (nodup_of_map _ hk)).2 fun R => ?_
        rw [dropAll_roots]
        constructor
        · intro hR
          refine ⟨m2 R hR, fun hx => mem_otherK hx ?_⟩
          rw [← m1]
          exact List.mem_map.2 ⟨R, hR, rfl⟩
        · rintro ⟨h3, h4⟩
          have := otherK_mem h3 h4
          rw [← m1] at this
          obtain ⟨S, hS, he⟩ := List.mem_map.1 this
          rw [← eq_of_map hks (m2 S hS) h3 he]
          exact hS
      have i3 := into_sub (s := dropAll { s with env := env' } (otherK rs s.roots)) (env' := env') (roots' := roots') (by
        rw [d1]
        have : ∀ {l : List (Key × TV)} {ks : List Key}, getE s.env ks = some l → True := fun _ => trivial
        exact getE_self h1) hp
      obtain ⟨gr3, hr3⟩ := i3 Z w0 E0 pins gr2 a w hr2
      rw [d2, d3] at hr3
      exact ⟨gr3, hr3⟩
  · cases h
  where
  lk_getE {env : List (Key × TV)} : ∀ {ks : List Key} {env' : List (Key × TV)}, getE env ks = some env' → ∀ k tv, (k, tv) ∈ env' → lk env k.1 k.2 = some tv ∧ lk env' k.1 k.2 = some tv
    | [], env', h, k, tv, hm => by simp only [getE] at h; cases h; cases hm
    | k0 :: ks, env', h, k, tv, hm => by
      simp only [getE] at h
      split at h
      · rename_i tv0 r h1 h2
        cases h
        by_cases e : k0 = k
        · subst e
          have hl : lk ((k0, tv0) :: r) k0.1 k0.2 = some tv0 := by simp [lk]
          rcases List.mem_cons.1 hm with he | hm
          · cases he; exact ⟨h1, hl⟩
          · have := (lk_getE h2 _ _ hm).1
            rw [h1] at this
            cases this
            exact ⟨h1, hl⟩
        · rcases List.mem_cons.1 hm with he | hm
          · cases he; exact absurd rfl e
          · obtain ⟨a1, a2⟩ := lk_getE h2 _ _ hm
            refine ⟨a1, ?_⟩
            simp only [lk]
            by_cases e1 : k0.1 = k.1
            · rw [if_pos e1]
              by_cases e2 : k0.2 = k.2
              · exact absurd (Prod.ext e1 e2) e
              · rw [if_neg e2]; exact a2
            · rw [if_neg e1]; exact a2
      · cases h
  getE_self {env : List (Key × TV)} {ks : List Key} {env' : List (Key × TV)} (h : getE env ks = some env') : SubE env' env' := by
    have : ∀ (l : List (Key × TV)), (∀ e, e ∈ l → e ∈ env') → SubE env' l := by
      intro l
      induction l with
      | nil => intro _; trivial
      | cons e l ih => exact fun hh => ⟨(lk_getE h e.1 e.2 (hh e List.mem_cons_self)).2, ih fun e he => hh e (List.mem_cons_of_mem _ he)⟩
    exact this env' fun _ h => h

/-! ### rules -/

section
variable {P : Program} {T : Tab} {st : St} {Q : Exit → St → Prop}

/-- What a round ends in. -/
def LoopQ {σ ρ : Type} (I : σ → St) (E : ρ → Exit → St → Prop) : σ ⊕ ρ → Exit → St → Prop
  | .inl s' => fun e st => e = .normal ∧ Into st (I s')
  | .inr r => E r

theorem k_loop {c : Code} {σ ρ : Type} (I : σ → St) (E : ρ → Exit → St → Prop) {step : σ → Option (σ ⊕ ρ)} {s0 : σ} {o : ρ} (h : loopC step s0 = some o) (h0 : Into st (I s0))
    (round : ∀ s o, step s = some o → Tri P c (I s) (LoopQ I E o)) (hE : ∀ e st', E o e st' → e ≠ .normal ∧ Q e st') : Tri P (.loop c) st Q := by
  obtain ⟨n, hn⟩ := loopC_iff.1 h
  intro Z w0 E0 pins gr a w hr
  have key : ∀ n s gr a w, loopN step n s = some o → Rel Z w0 E0 pins gr a w (I s) → Code.rounds P c (Holds Z w0 E0 pins Q) n a w := by
    intro n
    induction n with
    | zero => intro s gr a w h _; cases h
    | succ n ih =>
      intro s gr a w hs hr
      rw [rounds_succ]
      simp only [loopN] at hs
      split at hs
      · cases hs
      · rename_i s' hst
        refine wp_mono (round s _ hst Z w0 E0 pins gr a w hr) ?_
        rintro e a' w' ⟨gr', s2, h1, h2, h3⟩
        subst h2
        obtain ⟨gr2, h4⟩ := h3 Z w0 E0 pins gr' a' w' h1
        exact ih s' gr2 a' w' hs h4
      · rename_i r hst
        cases hs
        refine wp_mono (round s _ hst Z w0 E0 pins gr a w hr) ?_
        rintro e a' w' ⟨gr', s2, h1, h2⟩
        obtain ⟨h4, h3⟩ := hE e s2 h2
        cases e with
        | normal => exact absurd rfl h4
        | exit id => exact ⟨gr', s2, h1, h3⟩
        | goto l => exact ⟨gr', s2, h1, h3⟩
        | ret => exact ⟨gr', s2, h1, h3⟩
        | panic ch => exact ⟨gr', s2, h1, h3⟩
        | outgrown => exact ⟨gr', s2, h1, h3⟩
  obtain ⟨gr', hr'⟩ := h0 Z w0 E0 pins gr a w hr
  exact wp_loop_rounds _ (key n s0 gr' a w hn hr')

/-- What a part ends in, that may end early. -/
def JoinQ {τ α : Type} (J : τ → St) (QA : α → Exit → St → Prop) : τ ⊕ α → Exit → St → Prop
  | .inl v => fun e s => e = .normal ∧ Into s (J v)
  | .inr a => fun e s => e ≠ .normal ∧ QA a e s

/-- A part whose end is one state. -/
theorem k_join {x z : Code} {τ : Type} (J : τ → St) (v : τ) (h1 : Tri P x st fun e s => e = .normal ∧ Into s (J v)) (h2 : Tri P z (J v) Q) : Tri P (.seq x z) st Q := by
  refine tri_mid (fun s => Into s (J v)) (tri_mono h1 ?_) fun s hi => tri_into hi h2
  rintro e s ⟨rfl, hi⟩
  exact hi

theorem k_joinE {x z : Code} {τ α : Type} (J : τ → St) (QA : α → Exit → St → Prop) (o : τ ⊕ α) (h1 : Tri P x st (JoinQ J QA o)) (h2 : ∀ v, o = .inl v → Tri P z (J v) Q) (h3 : ∀ a, o = .inr a → ∀ e s, QA a e s → Q e s) : Tri P (.seq x z) st Q := by
  cases o with
  | inl v =>
    refine tri_mid (fun s => Into s (J v)) (tri_mono h1 ?_) fun s hi => tri_into hi (h2 v rfl)
    rintro e s ⟨rfl, hi⟩
    exact hi
  | inr a =>
    refine tri_seq (tri_mono h1 ?_)
    rintro e s ⟨hn, hq⟩
    have := h3 a rfl e s hq
    cases e with
    | normal => exact absurd rfl hn
    | exit id => exact this
    | goto l => exact this
    | ret => exact this
    | panic ch => exact this
    | outgrown => exact this

theorem k_seqskip {z : Code} (h : Tri P z st Q) : Tri P (.seq .skip z) st Q := tri_seq (tri_skip h)

theorem k_seqblock {id : Nat} {b z : Code} (h : Tri P b st (InBlk id (Thn P z Q))) : Tri P (.seq (.block id b) z) st Q := tri_seq (tri_block h)
end
end Go.Proofs.YtddfcajdelfikaaDoor.Vm
