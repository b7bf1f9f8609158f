/- Calls: the state behind, proved; the rule. -/
import Derived.Test.YtddfcajdelfikaaDoorVm21
set_option linter.unusedVariables false
set_option linter.unusedSimpArgs false
set_option linter.unusedSectionVars false
namespace Go.Proofs.YtddfcajdelfikaaDoor.Vm
open Go
open GV (absL extsL fzL)
open PV (frzL)

theorem extsR_filter (f : GR → Bool) : ∀ (gr : List GR), ∃ D, (extsR gr).Perm (extsR (gr.filter f) ++ D)
  | [] => ⟨[], by simp [extsR]⟩
  | R :: gr => by
    obtain ⟨D, hD⟩ := extsR_filter f gr
    cases hf : f R with
    | true =>
      refine ⟨D, ?_⟩
      simp only [List.filter_cons, hf, if_true, extsR, List.append_assoc]
      exact hD.append_left _
    | false =>
      refine ⟨D ++ R.exts, ?_⟩
      simp only [List.filter_cons, hf, Bool.false_eq_true, if_false, extsR]
      refine (hD.append_left _).trans ?_
      refine List.perm_append_comm.trans ?_
      simp

theorem comps_news {w : World} {O : Nat → Nat → Prop} {d : Nat} {Cv : Prop} : ∀ {c : Nat} {rv : List Value} {rets : List (Bool × List PV)} {Er : List (List Ext)}, CompsOk w O rv rets Er → (Cv ∨ cleanR rets = true) →
    ∃ news : List GR, newRoots d c rets = news.map GR.root ∧ extsR news = Er.flatten ∧ (∀ R, R ∈ news → R.key.1 = d ∧ c ≤ R.key.2 ∧ R.loc = none ∧ SatL w O R.row ∧ (Cv ∨ PV.cleanL (absL R.row) = true)) ∧ (news.map GR.key).Nodup ∧
      ∀ (Z : Nat → Nat → Prop) (grT : List GR), (∀ R, R ∈ news → R ∈ grT) → (∀ gs, (Cv ∨ PV.cleanL (absL gs) = true) → SatL w O gs → SatL w (OW Z grT) gs) → ∀ e, e ∈ newEnv d c rets → ∃ i v, e.1 = (d, c + i) ∧ rv[i]? = some v ∧ TVOk Z w grT v e.2
  | c, [], [], [], _, _ => ⟨[], rfl, rfl, (fun R h => by cases h), List.nodup_nil, fun _ _ _ _ e h => by cases h⟩
  | c, v :: rv, (agg, row) :: rets, E :: Er, h, hcl => by
    have hcl1 : Cv ∨ PV.cleanL row = true := hcl.imp id fun h => by simp only [cleanR, Bool.and_eq_true] at h; exact h.1
    have hcl2 : Cv ∨ cleanR rets = true := hcl.imp id fun h => by simp only [cleanR, Bool.and_eq_true] at h; exact h.2
    obtain ⟨news, n1, n2, n3, n4, n5⟩ := comps_news (d := d) (c := c + 1) h.2 hcl2
    obtain ⟨gs, rfl, hs, hp, hE⟩ := h.1
    have rest : ∀ (Z : Nat → Nat → Prop) (grT : List GR), (∀ R, R ∈ news → R ∈ grT) → (∀ gs, (Cv ∨ PV.cleanL (absL gs) = true) → SatL w O gs → SatL w (OW Z grT) gs) → ∀ e, e ∈ newEnv d (c + 1) rets →
        ∃ i v', e.1 = (d, c + i) ∧ (v :: rv)[i]? = some v' ∧ TVOk Z w grT v' e.2 := by
      intro Z grT q1 q2 e he
      obtain ⟨i, v', r1, r2, r3⟩ := n5 Z grT q1 q2 e he
      exact ⟨i + 1, v', by rw [r1]; congr 1; omega, by simpa using r2, r3⟩
    cases ho : hasOwn (absL gs) with
    | false =>
      have hfz := hasOwn_false_fz hs ho
      refine ⟨news, by simp only [newRoots, ho, cond_false]; exact n1, by rw [n2, hE, GV.extsL_fz hfz]; rfl, fun R hR => ?_, n4, fun Z grT q1 q2 e he => ?_⟩
      · obtain ⟨r1, r2, r3⟩ := n3 R hR
        exact ⟨r1, by omega, r3⟩
      · simp only [newEnv, ho, cond_false] at he
        rcases List.mem_cons.1 he with rfl | he
        · exact ⟨0, v, rfl, rfl, gs, rfl, hfz, q2 gs hcl1 hs, hp⟩
        · exact rest Z grT q1 q2 e he
    | true =>
      refine ⟨⟨(d, c), none, gs⟩ :: news, ?_, ?_, ?_, ?_, fun Z grT q1 q2 e he => ?_⟩
      · simp only [newRoots, ho, cond_true, List.map_cons, n1]
        rfl
      · simp only [extsR, n2, hE, List.flatten_cons]
        simp [GR.exts, GR.base]
      · intro R hR
        rcases List.mem_cons.1 hR with rfl | hR
        · exact ⟨rfl, Nat.le_refl _, rfl, hs, hcl1⟩
        · obtain ⟨r1, r2, r3⟩ := n3 R hR
          exact ⟨r1, by omega, r3⟩
      · refine List.nodup_cons.2 ⟨fun hk => ?_, n4⟩
        obtain ⟨R, hR, hk⟩ := List.mem_map.1 hk
        have h2 : R.key = (d, c) := hk
        have := (n3 R hR).2.1
        rw [h2] at this
        exact absurd this (by simp)
      · simp only [newEnv, ho, cond_true] at he
        rcases List.mem_cons.1 he with rfl | he
        · refine ⟨0, v, rfl, rfl, ⟨(d, c), none, gs⟩, q1 _ List.mem_cons_self, rfl, gs, ?_, hp⟩
          rw [absL_length]
          simp [getG]
        · exact rest Z grT (fun R hR => q1 R (List.mem_cons_of_mem _ hR)) q2 e he
  | _, [], [], _ :: _, h, _ => h.elim
  | _, [], _ :: _, _, h, _ => h.elim
  | _, _ :: _, [], _, h, _ => h.elim
  | _, _ :: _, _ :: _, [], h, _ => h.elim

theorem comps_length {w : World} {O : Nat → Nat → Prop} : ∀ {rv : List Value} {rets : List (Bool × List PV)} {Er : List (List Ext)}, CompsOk w O rv rets Er → rv.length = rets.length
  | [], [], [], _ => rfl
  | v :: rv, r :: rets, E :: Er, h => by simp [comps_length h.2]
  | [], [], _ :: _, h => h.elim
  | [], _ :: _, _, h => h.elim
  | _ :: _, [], _, h => h.elim
  | _ :: _, _ :: _, [], h => h.elim

section
variable {Z : Nat → Nat → Prop} {w0 : World} {E0 : List Ext} {pins : List Pin} {gr : List GR} {a : Act} {w : World} {st : St}

/-- A value, or a tuple, comes to a temporary. -/
theorem Rel.gputs (h : Rel Z w0 E0 pins gr a w st) {d : Nat} (hd : d < st.nt) (henv : ∀ e, e ∈ st.env → e.1.1 ≠ d) {v : Value} {new : List (Key × TV)}
    (hnew : ∀ e, e ∈ new → e.1.1 = d ∧ ((e.1.2 = 0 ∧ TVOk Z w gr v e.2) ∨ ∃ i vs u, e.1.2 = i + 1 ∧ v = .tuple vs ∧ vs[i]? = some u ∧ TVOk Z w gr u e.2)) :
    Rel Z w0 E0 pins gr (a.put (some d) v) w { st with env := new ++ st.env } := by
  have hsz := h.size
  have hs : (a.put (some d) v).tmps.size = a.tmps.size := by simp [Act.put]
  have hdv : (a.put (some d) v).tmps.getD d undef = v := by
    simp [Act.put, Array.getElem?_setIfInBounds, show d < a.tmps.size by omega]
  refine { h with env := ?_, size := by rw [hs]; exact h.size, defers := h.defers }
  intro e he
  rcases List.mem_append.1 he with he | he
  · obtain ⟨h1, h2⟩ := hnew e he
    obtain ⟨⟨t, c⟩, tv⟩ := e
    simp only at h1 h2
    subst h1
    rcases h2 with ⟨rfl, h3⟩ | ⟨i, vs, u, rfl, h3, h4, h5⟩
    · exact ⟨by rw [hs]; omega, by rw [hdv]; exact h3⟩
    · exact ⟨by rw [hs]; omega, vs, u, by rw [hdv]; exact h3, h4, h5⟩
  · have hne := henv e he
    have := h.env e he
    obtain ⟨⟨t, i⟩, tv'⟩ := e
    have hg : (a.put (some d) v).tmps.getD t undef = a.tmps.getD t undef := by
      simp [Act.put, Array.getElem?_setIfInBounds_ne (Ne.symm hne)]
    cases i with
    | zero => exact ⟨by rw [hs]; exact this.1, by rw [hg]; exact this.2⟩
    | succ i => exact ⟨by rw [hs]; exact this.1, by rw [hg]; exact this.2⟩

def keepK (d : Nat) (us : List Key) (R : GR) : Bool := !(Nat.beq R.key.1 d || hasKey us R.key)

theorem keepRC_root {d : Nat} {us : List Key} : ∀ {gr : List GR}, keepRC d us (gr.map GR.root) = (gr.filter (keepK d us)).map GR.root
  | [] => rfl
  | R :: gr => by
    simp only [List.map_cons, keepRC, List.filter_cons]
    have e : R.root.key = R.key := rfl
    rw [e, keepRC_root]
    unfold keepK
    cases (Nat.beq R.key.1 d || hasKey us R.key) <;> simp

theorem keepK_true {d : Nat} {us : List Key} {R : GR} (h : keepK d us R = true) : R.key.1 ≠ d ∧ R.key ∉ us := by
  unfold keepK at h
  simp only [Bool.not_eq_true', Bool.or_eq_false_iff] at h
  exact ⟨fun e => by rw [e] at h; simp at h, hasKey_false h.2⟩

theorem keepK_of {d : Nat} {us : List Key} {R : GR} (h1 : R.key.1 ≠ d) (h2 : R.key ∉ us) : keepK d us R = true := by
  unfold keepK
  have e1 : Nat.beq R.key.1 d = false := by
    cases hb : Nat.beq R.key.1 d with
    | false => rfl
    | true => exact absurd (Nat.eq_of_beq_eq_true hb) h1
  have e2 : hasKey us R.key = false := by
    cases hb : hasKey us R.key with
    | false => rfl
    | true => exact absurd (hasKey_iff.1 hb) h2
  rw [e1, e2]; rfl

/-- The core: what stays, what is told anew. grA: the roots with what was lent put back; N: the extents that came back; REST: extents that stay. -/
theorem call_core (h : Rel Z w0 E0 pins gr a w st) {d : Nat} (hd : d < st.nt) (hpd : ∀ k, k ∈ st.pk → k.1 ≠ d) {us : List Key} {f : TV → Bool} {roots : List Root} {rets : List (Bool × List PV)} {rv : List Value} {Er : List (List Ext)}
    {O : Nat → Nat → Prop} {w' : World} {X : Nat → Nat → Prop} {grA : List GR} {N REST D : List Ext} {Cv : Prop} (hE : Evo w w' X) (hX : ∀ b o, X b o → inE (extsR gr) b o)
    (hroots : roots = grA.map GR.root) (hkA : (grA.map GR.key).Nodup) (hcomps : CompsOk w' O rv rets Er) (hcl : Cv ∨ cleanR rets = true)
    (hperm : (extsR (grA.filter (keepK d us))).Perm (N ++ REST)) (hrest : (extsR gr).Perm (REST ++ D)) (hap : Apart (Er.flatten ++ N)) (hin : ∀ b o, inE (Er.flatten ++ N) b o → b < w.heap.size → inE (extsR gr) b o ∧ ¬ inE REST b o)
    (hconv : ∀ gr3 gs, (∀ b o, inE (extsR gr3) b o → inE (Er.flatten ++ N) b o ∨ inE (extsR gr) b o) → (Cv ∨ PV.cleanL (absL gs) = true) → SatL w' O gs → SatL w' (OW Z gr3) gs)
    (hR : ∀ gr3, (∀ b o, inE (extsR gr3) b o → inE (Er.flatten ++ N) b o ∨ inE (extsR gr) b o) → (∀ b o, OW Z gr3 b o → b < w.heap.size → OW Z gr b o) → ∀ R, R ∈ grA → keepK d us R = true → (R ∈ gr ∧ ∀ b o, inE R.exts b o → ¬ X b o) ∨
      (SatL w' (OW Z gr3) R.row ∧ Mem w' R.loc R.row ∧ ∀ b o, R.loc = some (b, o) → Blk w' b (o + R.row.length)))
    (hpin : ∀ p, p ∈ pins → PinOk grA p) (hf : ∀ tv, f tv = true → KeepsTV gr grA tv) :
    ∃ gr', Rel Z w0 E0 pins gr' (a.put (some d) (retV rv)) w' (st.behind d us f roots rets) := by
  obtain ⟨news, n1, n2, n3, n4, n5⟩ := comps_news (d := d) (c := startC rets) hcomps hcl
  have hperm3 : (extsR (news ++ grA.filter (keepK d us))).Perm ((Er.flatten ++ N) ++ REST) := by
    rw [extsR_append, n2, List.append_assoc]
    exact hperm.append_left _
  have hlt : ∀ b o, inE REST b o → b < w.heap.size := fun b o hb => h.lt b o ((inE_perm hrest).2 (inE_append.2 (.inl hb)))
  have hin3 : ∀ b o, inE (extsR (news ++ grA.filter (keepK d us))) b o → inE (Er.flatten ++ N) b o ∨ inE (extsR gr) b o := by
    intro b o hb
    rcases inE_append.1 ((inE_perm hperm3).1 hb) with hb | hb
    · exact .inl hb
    · exact .inr ((inE_perm hrest).2 (inE_append.2 (.inl hb)))
  have hI : ∀ b o, inE (extsR (news ++ grA.filter (keepK d us))) b o → b < w.heap.size → inE (extsR gr) b o := by
    intro b o hb hlt
    rcases hin3 b o hb with hb | hb
    · exact (hin b o hb hlt).1
    · exact hb
  have hO' : ∀ b o, OW Z (news ++ grA.filter (keepK d us)) b o → b < w.heap.size → OW Z gr b o := fun b o h hb => h.elim (fun h => .inl (hI b o h hb)) .inr
  have hap3 : Apart (extsR (news ++ grA.filter (keepK d us))) := by
    refine Apart.perm (Apart.append.2 ⟨hap, (Apart.append.1 (h.apart.perm hrest)).1, fun b o h1 h2 => ?_⟩) hperm3.symm
    exact (hin b o h1 (hlt b o h2)).2 h2
  have hk3 : ((news ++ grA.filter (keepK d us)).map GR.key).Nodup := by
    rw [List.map_append]
    refine List.nodup_append.2 ⟨n4, ?_, ?_⟩
    · exact List.Nodup.sublist (List.Sublist.map _ List.filter_sublist) hkA
    · intro k1 h1 k2 h2 e
      obtain ⟨R, hR1, rfl⟩ := List.mem_map.1 h1
      obtain ⟨S, hS1, rfl⟩ := List.mem_map.1 h2
      obtain ⟨_, hS2⟩ := List.mem_filter.1 hS1
      exact (keepK_true hS2).1 (by rw [← e]; exact (n3 R hR1).1)
  have hrel := h.renew (gr' := news ++ grA.filter (keepK d us)) (X := X) (w' := w') hE hX hap3 hI hk3 ?_ ?_ (env' := keepC d us f st.env) ?_
  · have hgp := hrel.gputs (d := d) hd (fun e he => (mem_keepC he).2.1) (v := retV rv) (new := newEnv d (startC rets) rets) ?_
    · refine ⟨news ++ grA.filter (keepK d us), ?_⟩
      unfold St.behind
      rw [hroots, keepRC_root, n1, ← List.map_append]
      exact hgp
    · intro e he
      obtain ⟨i, v, e1, e2, e3⟩ := n5 Z _ (fun R hR => List.mem_append.2 (.inl hR)) (fun gs hg hs => hconv _ gs hin3 hg hs) e he
      have hlen := comps_length hcomps
      refine ⟨by rw [e1], ?_⟩
      unfold startC at e1
      split at e1
      · rename_i r
        simp only [List.length_cons, List.length_nil] at hlen
        obtain ⟨u, rfl⟩ := List.length_eq_one_iff.1 hlen
        have hi : i = 0 := by
          have := (List.getElem?_eq_some_iff.1 e2).1
          simpa using this
        subst hi
        simp only [List.getElem?_cons_zero, Option.some.injEq] at e2
        subst e2
        exact .inl ⟨by rw [e1], e3⟩
      · rename_i hne
        refine .inr ⟨i, rv.toArray, v, by rw [e1]; show 1 + i = i + 1; omega, ?_, by simpa using e2, e3⟩
        unfold retV
        split
        · rename_i u
          cases rets with
          | nil => simp at hlen
          | cons r rets =>
            cases rets with
            | nil => exact absurd rfl (hne r)
            | cons => simp at hlen
        · rfl
  · intro R hR'
    rcases List.mem_append.1 hR' with hR' | hR'
    · obtain ⟨_, _, r3, r4, r5⟩ := n3 R hR'
      refine .inr ⟨hconv _ _ hin3 r5 r4, (fun b o hb => by rw [r3] at hb; cases hb), (fun b o hl => by rw [r3] at hl; cases hl)⟩
    · obtain ⟨r1, r2⟩ := List.mem_filter.1 hR'
      exact hR _ hin3 hO' R r1 r2
  · intro p hp R hR' hk
    rcases List.mem_append.1 hR' with hR' | hR'
    · exact absurd ((n3 R hR').1) (by rw [hk]; exact hpd _ (h.pk p hp))
    · exact hpin p hp R (List.mem_filter.1 hR').1 hk
  · intro e he
    obtain ⟨k1, k2, k3, k4, k5⟩ := mem_keepC he
    refine ⟨k1, KeepsTV.trans (hf _ k5) ?_⟩
    refine TV.keeps_of (Gone := fun k => k.1 = d ∨ k ∈ us) (fun R hR' hg => ?_) (fun k hk hg => ?_)
    · refine List.mem_append.2 (.inr (List.mem_filter.2 ⟨hR', keepK_of (fun e => hg (.inl e)) (fun e => hg (.inr e))⟩))
    · rcases hg with hg | hg
      · rw [TV.onD_of_on hk hg] at k3; cases k3
      · rw [TV.onAny_false k4 k hg] at hk; cases hk
end

end Go.Proofs.YtddfcajdelfikaaDoor.Vm
