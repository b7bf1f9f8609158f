/- A state that follows from another; loops. -/
import Derived.Test.YtddfcajdelfikaaDoorVm25
set_option linter.unusedVariables false
set_option linter.unusedSimpArgs false
set_option linter.unusedSectionVars false
namespace Go.Proofs.YtddfcajdelfikaaDoor.Vm
open Go
open GV (absL extsL fzL)

/-- Wherever the one state is true, so is the other. -/
def Into (s s' : St) : Prop := ∀ Z w0 E0 pins gr a w, Rel Z w0 E0 pins gr a w s → ∃ gr', Rel Z w0 E0 pins gr' a w s'

theorem Into.refl (s : St) : Into s s := fun _ _ _ _ gr _ _ h => ⟨gr, h⟩
theorem Into.trans {s1 s2 s3 : St} (h1 : Into s1 s2) (h2 : Into s2 s3) : Into s1 s3 := fun Z w0 E0 pins gr a w h => by
  obtain ⟨gr', h'⟩ := h1 Z w0 E0 pins gr a w h
  exact h2 Z w0 E0 pins gr' a w h'

/-- Entries are forgotten, or told in another order. -/
def SubE (env : List (Key × TV)) : List (Key × TV) → Prop
  | [] => True
  | e :: r => lk env e.1.1 e.1.2 = some e.2 ∧ SubE env r

theorem subE_mem {env : List (Key × TV)} : ∀ {env' : List (Key × TV)}, SubE env env' → ∀ e, e ∈ env' → e ∈ env
  | [], _, e, he => by cases he
  | x :: r, h, e, he => by
    rcases List.mem_cons.1 he with rfl | he
    · exact lk_mem h.1
    · exact subE_mem h.2 e he

theorem perm_map {α β : Type} (f : α → β) : ∀ {l : List α} {m : List β}, m.Perm (l.map f) → ∃ l' : List α, l'.Perm l ∧ l'.map f = m := by
  intro l m h
  generalize hq : l.map f = q at h
  induction h generalizing l with
  | nil =>
    cases l with
    | nil => exact ⟨[], List.Perm.refl _, rfl⟩
    | cons => cases hq
  | cons x _ ih =>
    cases l with
    | nil => cases hq
    | cons y l =>
      simp only [List.map_cons, List.cons.injEq] at hq
      obtain ⟨l', h1, h2⟩ := ih hq.2
      exact ⟨y :: l', h1.cons y, by simp [hq.1, h2]⟩
  | swap x y r =>
    cases l with
    | nil => cases hq
    | cons a l =>
      cases l with
      | nil => cases hq
      | cons b l =>
        simp only [List.map_cons, List.cons.injEq] at hq
        exact ⟨b :: a :: l, List.Perm.swap _ _ _, by simp [hq.1, hq.2.1, hq.2.2]⟩
  | trans h1 h2 ih1 ih2 =>
    obtain ⟨l2, a1, a2⟩ := ih2 hq
    obtain ⟨l1, b1, b2⟩ := ih1 a2
    exact ⟨l1, b1.trans a1, b2⟩

theorem extsR_perm : ∀ {gr gr' : List GR}, gr'.Perm gr → (extsR gr').Perm (extsR gr) := by
  intro gr gr' h
  induction h with
  | nil => exact List.Perm.refl _
  | cons x _ ih => exact ih.append_left _
  | swap x y l =>
    simp only [extsR]
    rw [← List.append_assoc, ← List.append_assoc]
    exact List.Perm.append_right _ List.perm_append_comm
  | trans _ _ h1 h2 => exact h1.trans h2

/-- Entries fewer, roots in another order. -/
theorem into_sub {s : St} {env' : List (Key × TV)} {roots' : List Root} (he : SubE s.env env') (hr : roots'.Perm s.roots) : Into s { s with env := env', roots := roots' } := by
  intro Z w0 E0 pins gr a w h
  rw [h.roots] at hr
  obtain ⟨gr', h1, h2⟩ := perm_map GR.root hr
  have hx := extsR_perm h1
  have hin : ∀ b o, inE (extsR gr') b o ↔ inE (extsR gr) b o := fun b o => inE_perm hx
  have hOW : OW Z gr' = OW Z gr := by funext b o; simp only [OW, hin]
  refine ⟨gr', ⟨h2.symm, ?_, h.apart.perm hx.symm, ?_, ?_, ?_, ?_, h.evo, ?_, h.pk, ?_, h.size, h.defers⟩⟩
  · exact ((h1.map GR.key).nodup_iff).2 h.keys
  · intro R hR; rw [hOW]; exact h.sat R (h1.mem_iff.1 hR)
  · intro R hR; exact h.mem R (h1.mem_iff.1 hR)
  · intro R hR; exact h.blk R (h1.mem_iff.1 hR)
  · intro b o hb; exact h.own b o ((hin b o).1 hb)
  · intro p hp R hR hk; exact h.pin p hp R (h1.mem_iff.1 hR) hk
  · intro e hee
    refine EntOk.carry (Evo.refl w (fun _ _ => False)) (fun _ _ h => h.elim) (fun b o hb _ => by rw [hOW] at hb; exact hb) (fun _ _ h => h.elim) (fun b o hb _ => (hin b o).1 hb) (KeepsTV.of_sub (fun R hR => h1.mem_iff.2 hR) e.2) (h.env e (subE_mem he e hee))

/-- A root is forgotten, and all that leads to it. -/
theorem into_drop {s : St} (k : Key) : Into s (s.drop k) := fun Z w0 E0 pins gr a w h => ⟨gdel gr k, h.gdrop k⟩

def dropAll (s : St) : List Key → St
  | [] => s
  | k :: ks => dropAll (s.drop k) ks

theorem into_drops (s : St) : ∀ (ks : List Key), Into s (dropAll s ks)
  | [] => Into.refl s
  | k :: ks => (into_drop k).trans (by
      have : ∀ (s : St), Into s (dropAll s ks) := fun s => into_drops s ks
      exact this (s.drop k))

attribute [go_sem] dropAll SubE

/-- Roots let go, entries fewer, roots in another order. -/
theorem into_to {s : St} (ks : List Key) {s1 : St} {env' : List (Key × TV)} {roots' : List Root} {nt : Nat} {pk : List Key} (h : SubE s1.env env' ∧ roots'.Perm s1.roots ∧ s1.nt = nt ∧ s1.pk = pk)
    (h1 : dropAll s ks = s1 := by simp only [go_sem, reduceIte, Nat.reduceLT, Nat.reduceLeDiff, Nat.reduceEqDiff, Nat.reduceAdd, Nat.reduceSub, Nat.reduceMul, Nat.reduceBEq, Int.reduceEq, Int.reduceToNat] <;> rfl) : Into s ⟨env', roots', nt, pk⟩ := by
  obtain ⟨h2, h3, rfl, rfl⟩ := h
  subst h1
  exact (into_drops s ks).trans (into_sub h2 h3)

section
variable {P : Program} {T : Tab} {st : St} {Q : Exit → St → Prop}

theorem tri_into {c : Code} {st' : St} (hi : Into st st') (h : Tri P c st' Q) : Tri P c st Q := by
  intro Z w0 E0 pins gr a w hr
  obtain ⟨gr', hr'⟩ := hi Z w0 E0 pins gr a w hr
  exact h Z w0 E0 pins gr' a w hr'

/-- A loop, by a family of states: each round ends in one of lower measure. -/
theorem go_loop {c : Code} {ι : Type} (I : ι → St) (μ : ι → Nat) (i0 : ι) (h0 : Into st (I i0))
    (round : ∀ i, Tri P c (I i) fun e s => match e with
      | .normal => ∃ j, Into s (I j) ∧ μ j < μ i
      | e => Q e s) : Tri P (.loop c) st Q := by
  intro Z w0 E0 pins gr a w hr
  have key : ∀ n i gr a w, μ i < n → Rel Z w0 E0 pins gr a w (I i) → Code.rounds P c (Holds Z w0 E0 pins Q) n a w := by
    intro n
    induction n with
    | zero => intro i gr a w h _; exact absurd h (by omega)
    | succ n ih =>
      intro i gr a w hlt hr
      rw [rounds_succ]
      refine wp_mono (round i Z w0 E0 pins gr a w hr) ?_
      rintro e a' w' ⟨gr', s, h1, h2⟩
      cases e with
      | normal =>
        obtain ⟨j, hi, hj⟩ := h2
        obtain ⟨gr2, h3⟩ := hi Z w0 E0 pins gr' a' w' h1
        exact ih j gr2 a' w' (by omega) h3
      | exit id => exact ⟨gr', s, h1, h2⟩
      | goto l => exact ⟨gr', s, h1, h2⟩
      | ret => exact ⟨gr', s, h1, h2⟩
      | panic ch => exact ⟨gr', s, h1, h2⟩
      | outgrown => exact ⟨gr', s, h1, h2⟩
  obtain ⟨gr', hr'⟩ := h0 Z w0 E0 pins gr a w hr
  exact wp_loop_rounds _ (key (μ i0 + 1) i0 gr' a w (by omega) hr')

/-- A loop, by a family of states with an invariant. -/
theorem go_while {c : Code} {ι : Type} (I : ι → St) (inv : ι → Prop) (μ : ι → Nat) (i0 : ι) (h0 : Into st (I i0)) (hi : inv i0)
    (round : ∀ i, inv i → Tri P c (I i) fun e s => match e with
      | .normal => ∃ j, Into s (I j) ∧ inv j ∧ μ j < μ i
      | e => Q e s) : Tri P (.loop c) st Q := by
  refine go_loop (ι := { i : ι // inv i }) (fun i => I i.1) (fun i => μ i.1) ⟨i0, hi⟩ h0 ?_
  intro ⟨i, h⟩
  refine tri_mono (round i h) ?_
  intro e s hs
  cases e with
  | normal =>
    obtain ⟨j, h1, h2, h3⟩ := hs
    exact ⟨⟨j, h2⟩, h1, h3⟩
  | exit id => exact hs
  | goto l => exact hs
  | ret => exact hs
  | panic ch => exact hs
  | outgrown => exact hs

/-- A part whose end is told by a family of states. -/
theorem go_mid {x y : Code} {ι : Type} (I : ι → St) (φ : ι → Prop) (h1 : Tri P x st fun e s => match e with | .normal => ∃ i, Into s (I i) ∧ φ i | e => Q e s) (h2 : ∀ i, φ i → Tri P y (I i) Q) : Tri P (.seq x y) st Q := by
  refine tri_mid (fun s => ∃ i, Into s (I i) ∧ φ i) (tri_mono h1 ?_) ?_
  · intro e s h
    cases e <;> exact h
  · intro s ⟨i, hi, hp⟩
    exact tri_into hi (h2 i hp)
end

end Go.Proofs.YtddfcajdelfikaaDoor.Vm
