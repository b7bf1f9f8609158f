/- Calls: the state behind. -/
import Derived.Test.YtddfcajdelfikaaDoorVm20
set_option linter.unusedVariables false
set_option linter.unusedSimpArgs false
set_option linter.unusedSectionVars false
namespace Go.Proofs.YtddfcajdelfikaaDoor.Vm
open Go
open GV (absL extsL fzL)
open PV (frzL)

def CasesOk (w : World) (gr : List GR) : List Value → List PassR → List (List Ext) → Prop
  | [], [], [] => True
  | v :: vs, r :: rs, E :: Es => ArgCase w gr v r E ∧ CasesOk w gr vs rs Es
  | _, _, _ => False

def keysOf : List PassR → List Key
  | [] => []
  | r :: rs => (r.use.toList ++ r.lend.toList.map (·.1)) ++ keysOf rs

theorem keysOf_perm : ∀ (rs : List PassR), (keysOf rs).Perm ((lendsOf rs).map (·.1) ++ usesOf rs)
  | [] => List.Perm.refl _
  | r :: rs => by
    have ih := keysOf_perm rs
    simp only [keysOf, lendsOf, usesOf]
    cases hu : r.use with
    | none => cases hl : r.lend with
      | none => simpa using ih
      | some l => simpa using ih
    | some k => cases hl : r.lend with
      | none =>
        simp only [Option.toList_some, Option.toList_none, List.map_nil, List.append_nil, List.cons_append, List.nil_append]
        exact (ih.cons k).trans List.perm_middle.symm
      | some l =>
        simp only [Option.toList_some, List.map_cons, List.map_nil, List.cons_append, List.nil_append]
        have h1 := (ih.cons l.1).cons k
        refine h1.trans ?_
        refine (List.Perm.swap l.1 k _).trans ?_
        exact (List.perm_middle.symm).cons l.1

theorem noDup_iff : ∀ {ks : List Key}, noDup ks = true → ks.Nodup
  | [], _ => List.nodup_nil
  | k :: ks, h => by
    simp only [noDup, Bool.and_eq_true, Bool.not_eq_true'] at h
    exact List.nodup_cons.2 ⟨hasKey_false h.1, noDup_iff h.2⟩

theorem noneIn_iff {ks : List Key} : ∀ {l : List Key}, noneIn ks l = true → ∀ k, k ∈ l → k ∉ ks
  | [], _, k, hk => by cases hk
  | x :: l, h, k, hk => by
    simp only [noneIn, Bool.and_eq_true, Bool.not_eq_true'] at h
    rcases List.mem_cons.1 hk with rfl | hk
    · exact hasKey_false h.1
    · exact noneIn_iff h.2 k hk

theorem noD_iff {d : Nat} : ∀ {l : List Key}, noD d l = true → ∀ k, k ∈ l → k.1 ≠ d
  | [], _, k, hk => by cases hk
  | x :: l, h, k, hk => by
    simp only [noD, Bool.and_eq_true, Bool.not_eq_true'] at h
    rcases List.mem_cons.1 hk with rfl | hk
    · intro e; rw [e] at h; simp at h
    · exact noD_iff h.2 k hk

theorem okPass_keys {rs : List PassR} (h : okPass rs = true) : (keysOf rs).Nodup ∧ (∀ k, k ∈ frzOf rs → k ∉ keysOf rs) := by
  unfold okPass at h
  have hp := keysOf_perm rs
  split at h
  · rename_i hl
    rw [hl] at hp
    simp only [List.map_nil, List.nil_append] at hp
    simp only [Bool.and_eq_true] at h
    exact ⟨(hp.nodup_iff).2 (noDup_iff h.1), fun k hk hk' => noneIn_iff h.2 k hk (hp.mem_iff.1 hk')⟩
  · rename_i k p n f hl
    rw [hl] at hp
    simp only [List.map_cons, List.map_nil, List.cons_append, List.nil_append] at hp
    simp only [Bool.and_eq_true] at h
    exact ⟨(hp.nodup_iff).2 (noDup_iff h.1), fun k hk hk' => noneIn_iff h.2 k hk (hp.mem_iff.1 hk')⟩
  · cases h

section
variable {Z : Nat → Nat → Prop} {w0 : World} {E0 : List Ext} {pins : List Pin} {gr : List GR} {a : Act} {w : World} {st : St}

theorem Rel.root_apart (h : Rel Z w0 E0 pins gr a w st) {R S : GR} (hR : R ∈ gr) (hS : S ∈ gr) (hk : S.key ≠ R.key) : ∀ b o, inE R.exts b o → inE S.exts b o → False := by
  have := Apart.append.1 (h.apart.perm (gdel_perm_of h.keys hR))
  intro b o h1 h2
  exact this.2.2 b o h1 (inE_extsR.2 ⟨S, mem_gdel.2 ⟨hS, hk⟩, h2⟩)

theorem Rel.exts_apart (h : Rel Z w0 E0 pins gr a w st) {R : GR} (hR : R ∈ gr) : Apart R.exts :=
  (Apart.append.1 (h.apart.perm (gdel_perm_of h.keys hR))).1

theorem case_inE (h : Rel Z w0 E0 pins gr a w st) {v : Value} {r : PassR} {E : List Ext} (hc : ArgCase w gr v r E) : ∀ b o, inE E b o → ∃ R, R ∈ gr ∧ R.key ∈ r.use.toList ++ r.lend.toList.map (·.1) ∧ inE R.exts b o := by
  intro b o he
  unfold ArgCase at hc
  split at hc
  · rw [hc.1] at he; exact absurd he not_inE_nil
  · rename_i k hu hl
    obtain ⟨_, R, hR, hk, rfl⟩ := hc
    exact ⟨R, hR, by rw [hu, hk]; simp, he⟩
  · rename_i k p n f hu hl
    obtain ⟨R, hR, hk, gs, row', hg, hset, hx⟩ := hc
    refine ⟨R, hR, by rw [hl, hk]; simp, ?_⟩
    cases f with
    | false =>
      obtain ⟨agg, _, _, rfl⟩ := hx
      exact GR.inE_exts.2 (.inr (getG_inE hg b o he))
    | true =>
      obtain ⟨b0, o0, _, ha, _, rfl⟩ := hx
      rcases inE_append.1 he with he | he
      · have := inE_one.1 he
        simp only [Ext.has] at this
        obtain ⟨rfl, h1, h2⟩ := this
        have := addrG_inE (h.sat R hR) (fun b o hb i hi => GR.base_in hb i hi) hset ha (o - o0) (by omega)
        rwa [Nat.add_sub_cancel' h1] at this
      · exact GR.inE_exts.2 (.inr (getG_inE hg b o he))
  · exact hc.elim

theorem case_apart (h : Rel Z w0 E0 pins gr a w st) {v : Value} {r : PassR} {E : List Ext} (hc : ArgCase w gr v r E) : Apart E := by
  unfold ArgCase at hc
  split at hc
  · rw [hc.1]; exact List.Pairwise.nil
  · obtain ⟨_, R, hR, hk, rfl⟩ := hc
    exact h.exts_apart hR
  · rename_i k p n f hu hl
    obtain ⟨R, hR, hk, gs, row', hg, hset, hx⟩ := hc
    have hn := getG_length hg
    rw [← hn] at hg
    obtain ⟨A, B, e1, _⟩ := setG_exts hg hset
    have hap := h.exts_apart hR
    have hgs : Apart (extsL gs) := by
      have := (Apart.append.1 hap).2.1
      rw [e1] at this
      exact (Apart.append.1 (Apart.append.1 this).1).2.1
    cases f with
    | false =>
      obtain ⟨agg, _, _, rfl⟩ := hx
      exact hgs
    | true =>
      obtain ⟨b0, o0, _, ha, _, rfl⟩ := hx
      refine Apart.append.2 ⟨List.pairwise_singleton _ _, hgs, fun b o h1 h2 => ?_⟩
      have := inE_one.1 h1
      simp only [Ext.has] at this
      obtain ⟨rfl, h3, h4⟩ := this
      have := addr_apart hg hset rfl ha (fun b o hb i hi => GR.base_in hb i hi) hap (o - o0) (by omega)
      rw [Nat.add_sub_cancel' h3] at this
      exact this h2
  · exact hc.elim

theorem cases_inE (h : Rel Z w0 E0 pins gr a w st) : ∀ {vs : List Value} {rs : List PassR} {Es : List (List Ext)}, CasesOk w gr vs rs Es → ∀ b o, inE Es.flatten b o → ∃ R, R ∈ gr ∧ R.key ∈ keysOf rs ∧ inE R.exts b o
  | [], [], [], _, b, o, he => absurd he not_inE_nil
  | v :: vs, r :: rs, E :: Es, hc, b, o, he => by
    rcases inE_append.1 he with he | he
    · obtain ⟨R, h1, h2, h3⟩ := case_inE h hc.1 b o he
      exact ⟨R, h1, List.mem_append.2 (.inl h2), h3⟩
    · obtain ⟨R, h1, h2, h3⟩ := cases_inE h hc.2 b o he
      exact ⟨R, h1, List.mem_append.2 (.inr h2), h3⟩
  | [], [], _ :: _, hc, _, _, _ => hc.elim
  | [], _ :: _, _, hc, _, _, _ => hc.elim
  | _ :: _, [], _, hc, _, _, _ => hc.elim
  | _ :: _, _ :: _, [], hc, _, _, _ => hc.elim

theorem cases_apart (h : Rel Z w0 E0 pins gr a w st) : ∀ {vs : List Value} {rs : List PassR} {Es : List (List Ext)}, CasesOk w gr vs rs Es → (keysOf rs).Nodup → Apart Es.flatten
  | [], [], [], _, _ => List.Pairwise.nil
  | v :: vs, r :: rs, E :: Es, hc, hk => by
    simp only [keysOf] at hk
    obtain ⟨k1, k2, k3⟩ := List.nodup_append.1 hk
    refine Apart.append.2 ⟨case_apart h hc.1, cases_apart h hc.2 k2, fun b o h1 h2 => ?_⟩
    obtain ⟨R, r1, r2, r3⟩ := case_inE h hc.1 b o h1
    obtain ⟨S, s1, s2, s3⟩ := cases_inE h hc.2 b o h2
    exact h.root_apart r1 s1 (fun e => k3 _ r2 _ s2 e.symm) b o r3 s3
  | [], [], _ :: _, hc, _ => hc.elim
  | [], _ :: _, _, hc, _ => hc.elim
  | _ :: _, [], _, hc, _ => hc.elim
  | _ :: _, _ :: _, [], hc, _ => hc.elim

/-- An argument that isn't lent tells nothing behind the call. -/
theorem out_none {w w' : World} {gr : List GR} {v : Value} {r : PassR} {E : List Ext} (hc : ArgCase w gr v r E) (hl : r.lend = none) {O : Nat → Nat → Prop} {out : List PV} {E' : List Ext} (ho : OutOk w' O v r.x out E') : out = [] ∧ E' = [] := by
  unfold ArgCase at hc
  rw [hl] at hc
  cases hu : r.use with
  | none =>
    rw [hu] at hc
    have hx := hc.2
    cases hrx : r.x <;> rw [hrx] at hx ho <;> first | exact ho | exact hx.elim
  | some k =>
    rw [hu] at hc
    obtain ⟨⟨agg, row, hrx⟩, _⟩ := hc
    rw [hrx] at ho
    exact ho

theorem outs_none {w w' : World} {gr : List GR} {O : Nat → Nat → Prop} : ∀ {vs : List Value} {rs : List PassR} {Es : List (List Ext)} {outs : List (List PV)} {Eo : List (List Ext)}, CasesOk w gr vs rs Es → lendsOf rs = [] → OutsOk w' O vs (rs.map PassR.x) outs Eo → outs.flatten = [] ∧ Eo.flatten = []
  | [], [], [], [], [], _, _, _ => ⟨rfl, rfl⟩
  | v :: vs, r :: rs, E :: Es, out :: outs, E' :: Eo, hc, hl, ho => by
    simp only [lendsOf] at hl
    cases hlr : r.lend with
    | some l => rw [hlr] at hl; cases hl
    | none =>
      rw [hlr] at hl
      obtain ⟨h1, h2⟩ := out_none hc.1 hlr ho.1
      obtain ⟨h3, h4⟩ := outs_none hc.2 hl ho.2
      exact ⟨by rw [h1]; exact h3, by rw [h2]; exact h4⟩
  | [], [], [], [], _ :: _, _, _, ho => ho.elim
  | [], [], [], _ :: _, _, _, _, ho => ho.elim
  | [], [], _ :: _, _, _, hc, _, _ => hc.elim
  | [], _ :: _, _, _, _, hc, _, _ => hc.elim
  | _ :: _, [], _, _, _, hc, _, _ => hc.elim
  | _ :: _, _ :: _, [], _, _, hc, _, _ => hc.elim
  | _ :: _, _ :: _, _ :: _, [], _, _, _, ho => ho.elim
  | _ :: _, _ :: _, _ :: _, _ :: _, [], _, _, ho => ho.elim

/-- The one argument that is lent. -/
theorem outs_one {w w' : World} {gr : List GR} {O : Nat → Nat → Prop} : ∀ {vs : List Value} {rs : List PassR} {Es : List (List Ext)} {outs : List (List PV)} {Eo : List (List Ext)} {l : Key × List Nat × Nat × Bool}, CasesOk w gr vs rs Es → lendsOf rs = [l] → OutsOk w' O vs (rs.map PassR.x) outs Eo →
    ∃ v r E, r.lend = some l ∧ ArgCase w gr v r E ∧ OutOk w' O v r.x outs.flatten Eo.flatten ∧ (∀ b o, inE E b o → inE Es.flatten b o) ∧ (∀ b o, inE Es.flatten b o → inE E b o ∨ ∃ R, R ∈ gr ∧ R.key ∈ usesOf rs ∧ inE R.exts b o)
  | [], [], [], _, _, _, _, hl, _ => by cases hl
  | v :: vs, r :: rs, E :: Es, out :: outs, E' :: Eo, l, hc, hl, ho => by
    simp only [lendsOf] at hl
    cases hlr : r.lend with
    | some l' =>
      rw [hlr] at hl
      simp only [List.cons.injEq] at hl
      obtain ⟨rfl, hl⟩ := hl
      obtain ⟨h3, h4⟩ := outs_none hc.2 hl ho.2
      have hnouse : r.use = none := by
        have := hc.1
        unfold ArgCase at this
        rw [hlr] at this
        cases hu : r.use with
        | none => rfl
        | some k => rw [hu] at this; exact this.elim
      refine ⟨v, r, E, hlr, hc.1, by simp only [List.flatten_cons, h3, h4, List.append_nil]; exact ho.1, fun b o he => inE_append.2 (.inl he), fun b o he => ?_⟩
      rcases inE_append.1 he with he | he
      · exact .inl he
      · refine .inr ?_
        have : ∀ {vs : List Value} {rs : List PassR} {Es : List (List Ext)}, CasesOk w gr vs rs Es → lendsOf rs = [] → ∀ b o, inE Es.flatten b o → ∃ R, R ∈ gr ∧ R.key ∈ usesOf rs ∧ inE R.exts b o := by
          intro vs rs Es
          induction rs generalizing vs Es with
          | nil =>
            intro hc _ b o he
            cases vs <;> cases Es <;> first | exact absurd he not_inE_nil | exact hc.elim
          | cons r rs ih =>
            intro hc hl b o he
            cases vs with
            | nil => cases Es <;> exact hc.elim
            | cons v vs =>
              cases Es with
              | nil => exact hc.elim
              | cons E Es =>
                simp only [lendsOf] at hl
                cases hlr : r.lend with
                | some l => rw [hlr] at hl; cases hl
                | none =>
                  rw [hlr] at hl
                  simp only [usesOf]
                  rcases inE_append.1 he with he | he
                  · have h1 := hc.1
                    unfold ArgCase at h1
                    rw [hlr] at h1
                    cases hu : r.use with
                    | none => rw [hu] at h1; rw [h1.1] at he; exact absurd he not_inE_nil
                    | some k =>
                      rw [hu] at h1
                      obtain ⟨_, R, hR, hk, rfl⟩ := h1
                      exact ⟨R, hR, by simp [hk], he⟩
                  · obtain ⟨R, h1, h2, h3⟩ := ih hc.2 hl b o he
                    refine ⟨R, h1, ?_, h3⟩
                    cases r.use with
                    | none => exact h2
                    | some k => exact List.mem_cons_of_mem _ h2
        obtain ⟨R, h1, h2, h3⟩ := this hc.2 hl b o he
        exact ⟨R, h1, by simp only [usesOf, hnouse]; exact h2, h3⟩
    | none =>
      rw [hlr] at hl
      obtain ⟨h1, h2⟩ := out_none hc.1 hlr ho.1
      obtain ⟨v', r', E2, q1, q2, q3, q4, q5⟩ := outs_one hc.2 hl ho.2
      refine ⟨v', r', E2, q1, q2, by simp only [List.flatten_cons, h1, h2, List.nil_append]; exact q3, fun b o he => inE_append.2 (.inr (q4 b o he)), fun b o he => ?_⟩
      simp only [usesOf]
      rcases inE_append.1 he with he | he
      · have h1 := hc.1
        unfold ArgCase at h1
        rw [hlr] at h1
        cases hu : r.use with
        | none => rw [hu] at h1; rw [h1.1] at he; exact absurd he not_inE_nil
        | some k =>
          rw [hu] at h1
          obtain ⟨_, R, hR, hk, rfl⟩ := h1
          exact .inr ⟨R, hR, by simp [hk], he⟩
      · rcases q5 b o he with he | ⟨R, h1, h2, h3⟩
        · exact .inl he
        · refine .inr ⟨R, h1, ?_, h3⟩
          cases r.use with
          | none => exact h2
          | some k => exact List.mem_cons_of_mem _ h2
  | [], [], _ :: _, _, _, _, hc, _, _ => hc.elim
  | [], _ :: _, _, _, _, _, hc, _, _ => hc.elim
  | _ :: _, [], _, _, _, _, hc, _, _ => hc.elim
  | _ :: _, _ :: _, [], _, _, _, hc, _, _ => hc.elim
  | _ :: _, _ :: _, _ :: _, [], _, _, _, _, ho => ho.elim
  | _ :: _, _ :: _, _ :: _, _ :: _, [], _, _, _, ho => ho.elim
end

end Go.Proofs.YtddfcajdelfikaaDoor.Vm
