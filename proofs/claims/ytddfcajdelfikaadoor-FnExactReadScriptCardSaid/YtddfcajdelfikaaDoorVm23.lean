/- Calls: the rule. -/
import Derived.Test.YtddfcajdelfikaaDoorVm22
set_option linter.unusedVariables false
set_option linter.unusedSimpArgs false
set_option linter.unusedSectionVars false
namespace Go.Proofs.YtddfcajdelfikaaDoor.Vm
open Go
open GV (absL extsL fzL)
open PV (frzL)

theorem packed_vals {agg : Bool} {gs gs' : List GV} {v : Value} (h : Packed agg gs v) (h' : Packed agg gs' v) : gs'.map GV.val = gs.map GV.val := by
  cases agg with
  | true =>
    simp only [Packed] at h h'
    rw [h] at h'
    have := Value.agg.inj h'
    have := congrArg Array.toList this
    simpa using this.symm
  | false =>
    obtain ⟨g, rfl, rfl⟩ := h
    obtain ⟨g', rfl, h⟩ := h'
    simp [h]

theorem gdel_filter (f : GR → Bool) (gr : List GR) (k : Key) : gdel (gr.filter f) k = (gdel gr k).filter f := by
  unfold gdel
  rw [List.filter_filter, List.filter_filter]
  congr 1
  funext R
  exact Bool.and_comm _ _

section
variable {Z : Nat → Nat → Prop} {w0 : World} {E0 : List Ext} {pins : List Pin} {gr : List GR} {a : Act} {w : World} {st : St}

theorem call_ok (h : Rel Z w0 E0 pins gr a w st) {rs : List PassR} {vs : List Value} {Es : List (List Ext)} (hc : CasesOk w gr vs rs Es) (hok : okPass rs = true) {d : Nat} {rets : List (Bool × List PV)} {outs : List (List PV)} {st' : St}
    (hb : back st rs d rets outs = some st') {w' : World} {rv : List Value} {Er Eo : List (List Ext)} {Z2 : Nat → Nat → Prop} (hE : Evo w w' (inE Es.flatten)) (hcomps : CompsOk w' (OE Z2 (Er.flatten ++ Eo.flatten)) rv rets Er)
    (houts : OutsOk w' (OE Z2 (Er.flatten ++ Eo.flatten)) vs (rs.map PassR.x) outs Eo) (hap : Apart (Er.flatten ++ Eo.flatten)) (hin : ∀ b o, inE (Er.flatten ++ Eo.flatten) b o → b < w.heap.size → inE Es.flatten b o)
    (hz : frzOf rs = [] → ∀ b o, OW Z gr b o → Z2 b o) : ∃ gr', Rel Z w0 E0 pins gr' (a.put (some d) (retV rv)) w' st' := by
  have hX : ∀ b o, inE Es.flatten b o → inE (extsR gr) b o := by
    intro b o he
    obtain ⟨R, h1, _, h3⟩ := cases_inE h hc b o he
    exact inE_extsR.2 ⟨R, h1, h3⟩
  have hkeys := (okPass_keys hok).1
  unfold back at hb
  cases hcond : (cleanQ (frzOf rs) rets outs.flatten && noD d st.pk && Nat.blt d st.nt) with
  | false => rw [hcond] at hb; cases hb
  | true =>
    rw [hcond] at hb
    simp only [cond_true] at hb
    simp only [Bool.and_eq_true, Nat.blt_eq] at hcond
    obtain ⟨⟨c1, c2⟩, c3⟩ := hcond
    have hclean : frzOf rs = [] ∨ (cleanR rets = true ∧ PV.cleanL outs.flatten = true) := by
      cases hf : frzOf rs with
      | nil => exact .inl rfl
      | cons k ks => rw [hf] at c1; simp only [cleanQ, Bool.and_eq_true] at c1; exact .inr c1
    have hconv : ∀ {N : List Ext}, (∀ b o, inE N b o → inE Eo.flatten b o) → ∀ (gr3 : List GR) (gs : List GV), (∀ b o, inE (extsR gr3) b o → inE (Er.flatten ++ N) b o ∨ inE (extsR gr) b o) → (frzOf rs = [] ∨ PV.cleanL (absL gs) = true) →
        SatL w' (OE Z2 (Er.flatten ++ Eo.flatten)) gs → SatL w' (OW Z gr3) gs := by
      intro N hN gr3 gs hin3 hg hs
      rcases hg with hg | hg
      · refine hs.less fun b o ho _ => ?_
        rcases ho with ho | ho
        · rcases hin3 b o ho with ho | ho
          · refine .inl ?_
            rcases inE_append.1 ho with ho | ho
            · exact inE_append.2 (.inl ho)
            · exact inE_append.2 (.inr (hN b o ho))
          · exact .inr (hz hg b o (.inl ho))
        · exact .inr (hz hg b o (.inr ho))
      · exact satL_clean gs hs hg
    have hcl : frzOf rs = [] ∨ cleanR rets = true := hclean.imp id (·.1)
    cases hl : lendsOf rs with
    | nil =>
      rw [hl] at hb
      simp only [Option.some.injEq] at hb
      subst hb
      obtain ⟨_, ho2⟩ := outs_none hc hl houts
      have hus : ∀ k, k ∈ keysOf rs → k ∈ usesOf rs := fun k hk => by
        have := (keysOf_perm rs).mem_iff.1 hk
        rw [hl] at this
        simpa using this
      obtain ⟨D, hD⟩ := extsR_filter (keepK d (usesOf rs)) gr
      refine call_core h c3 (noD_iff c2) hE hX (grA := gr) (N := []) (REST := extsR (gr.filter (keepK d (usesOf rs)))) (D := D) (Cv := frzOf rs = []) h.roots h.keys hcomps hcl (List.Perm.refl _) hD ?_ ?_ (hconv (fun b o he => absurd he not_inE_nil)) ?_ h.pin (fun tv _ => KeepsTV.of_sub (fun R h => h) tv)
      · rw [ho2] at hap; exact hap
      · intro b o he hlt
        have := hin b o (by rw [ho2]; exact he) hlt
        refine ⟨hX b o this, fun hr => ?_⟩
        obtain ⟨R, r1, r2, r3⟩ := cases_inE h hc b o this
        obtain ⟨S, s1, s2⟩ := inE_extsR.1 hr
        obtain ⟨s3, s4⟩ := List.mem_filter.1 s1
        exact h.root_apart r1 s3 (fun e => (keepK_true s4).2 (by rw [e]; exact hus _ r2)) b o r3 s2
      · intro gr3 hin3 hO' R hR hkp
        refine .inl ⟨hR, fun b o he hx => ?_⟩
        obtain ⟨S, r1, r2, r3⟩ := cases_inE h hc b o hx
        exact h.root_apart r1 hR (fun e => (keepK_true hkp).2 (by rw [e]; exact hus _ r2)) b o r3 he
    | cons l ls =>
      have hls : ls = [] := by
        unfold okPass at hok
        rw [hl] at hok
        cases ls with
        | nil => rfl
        | cons => simp at hok
      subst hls
      obtain ⟨k, p, n, isRef⟩ := l
      rw [hl] at hb
      simp only [] at hb
      cases hkd : Nat.beq k.1 d with
      | true => rw [hkd] at hb; cases hb
      | false =>
        rw [hkd] at hb
        simp only [cond_false] at hb
        have hkd' : k.1 ≠ d := fun e => by rw [e] at hkd; simp at hkd
        split at hb
        · rename_i S hS
          split at hb
          · rename_i row hrow
            cases hb
            obtain ⟨v, r, E, q1, q2, q3, q4, q5⟩ := outs_one hc hl houts
            have q2' := q2
            unfold ArgCase at q2
            rw [q1] at q2
            have hnouse : r.use = none := by
              cases hu : r.use with
              | none => rfl
              | some _ => rw [hu] at q2; exact q2.elim
            rw [hnouse] at q2
            simp only [] at q2
            obtain ⟨R0, hR0, hkR0, gs, row0, hgs, hset0, hx⟩ := q2
            obtain ⟨R2, hR2, hr2, rfl⟩ := h.root hS
            obtain rfl := h.uniq hR2 hR0 (hr2.trans hkR0.symm)
            clear hR2 hr2
            have hn : gs.length = n := getG_length hgs
            -- what has come back
            obtain ⟨gs', hgo, hsat', hlen, hEo, hmem', hvals⟩ : ∃ gs', absL gs' = outs.flatten ∧ SatL w' (OE Z2 (Er.flatten ++ Eo.flatten)) gs' ∧ gs'.length = gs.length ∧
                ((isRef = false ∧ E = extsL gs ∧ Eo.flatten = extsL gs') ∨ (isRef = true ∧ ∃ b o, addrG p R2.loc R2.row = some (b, o) ∧ E = [.reg b o gs.length] ++ extsL gs ∧ Eo.flatten = [.reg b o gs.length] ++ extsL gs')) ∧
                (isRef = true → ∀ b o, addrG p R2.loc R2.row = some (b, o) → Mem w' (some (b, o)) gs') ∧ (isRef = false → gs'.map GV.val = gs.map GV.val) := by
              cases isRef with
              | false =>
                obtain ⟨agg, x1, x2, x3⟩ := hx
                rw [x1] at q3
                obtain ⟨gs', y1, y2, y3, y4⟩ := q3
                have hv := packed_vals x2 y3
                exact ⟨gs', y1, y2, by simpa using congrArg List.length hv, .inl ⟨rfl, x3, y4⟩, (fun h => by cases h), fun _ => hv⟩
              | true =>
                obtain ⟨b, o, x1, x2, x3, x4⟩ := hx
                rw [x1] at q3
                obtain ⟨b', o', gs', y1, y2, y3, y4, y5, y6⟩ := q3
                rw [x3] at y1
                have hbo : b = b' ∧ o = o' := by
                  simp only [Value.pointer.injEq, Option.some.injEq, addrOf, Addr.mk.injEq, and_true] at y1
                  exact y1
                obtain ⟨rfl, rfl⟩ := hbo
                have hlen : gs'.length = gs.length := by
                  have := y3
                  rw [← y2, absL_length, absL_length] at this
                  exact this
                refine ⟨gs', y2, y4, hlen, .inr ⟨rfl, b, o, x2, x4, by rw [← hlen]; exact y6⟩, fun _ b' o' hb => ?_, (fun h => by cases h)⟩
                rw [x2] at hb
                cases hb
                exact y5
            have hgs' : getG p R2.row gs'.length = some gs := by rw [hlen, hn]; exact hgs
            -- the row
            obtain ⟨row', hset, hrow'⟩ : ∃ row', setG p R2.row gs' = some row' ∧ absL row' = row := by
              have hs := setP_absL p R2.row gs' (h.sat R2 hR0)
              have hrow2 : setP p (absL R2.row) (absL gs') = some row := by rw [hgo]; exact hrow
              rw [hrow2] at hs
              cases hsg : setG p R2.row gs' with
              | none => rw [hsg] at hs; cases hs
              | some row' => rw [hsg] at hs; cases hs; exact ⟨row', rfl, rfl⟩
            subst hrow'
            obtain ⟨A, B, e1, e2⟩ := setG_exts hgs' hset
            have hkeysP : ∀ k', k' ∈ keysOf rs → k' = k ∨ k' ∈ usesOf rs := fun k' hk => by
              have := (keysOf_perm rs).mem_iff.1 hk
              rw [hl] at this
              simpa using this
            have hku : k ∉ usesOf rs := by
              have := ((keysOf_perm rs).nodup_iff).1 hkeys
              rw [hl] at this
              simp only [List.map_cons, List.map_nil, List.cons_append, List.nil_append] at this
              exact (List.nodup_cons.1 this).1
            have hroots : setR st.roots k (absL row') = (rput gr k row').map GR.root := by rw [h.roots, setR_root]
            have hkA : ((rput gr k row').map GR.key).Nodup := by rw [rput_keys]; exact h.keys
            have hR0' : { R2 with row := row' } ∈ (rput gr k row').filter (keepK d (usesOf rs)) :=
              List.mem_filter.2 ⟨rput_same hR0 hkR0, keepK_of (by show R2.key.1 ≠ d; rw [hkR0]; exact hkd') (by show R2.key ∉ _; rw [hkR0]; exact hku)⟩
            have hkL : (((rput gr k row').filter (keepK d (usesOf rs))).map GR.key).Nodup := List.Nodup.sublist (List.Sublist.map _ List.filter_sublist) hkA
            have hpL := gdel_perm_of hkL hR0'
            have hkey' : ({ R2 with row := row' } : GR).key = k := hkR0
            rw [hkey', gdel_filter, gdel_rput] at hpL
            have hbase : ({ R2 with row := row' } : GR).base = R2.base := base_len (setG_length hset)
            have hbase2 : (⟨k, R2.loc, row'⟩ : GR).base = R2.base := hbase
            have hpG := gdel_perm_of h.keys hR0
            rw [hkR0] at hpG
            obtain ⟨D1, hD1⟩ := extsR_filter (keepK d (usesOf rs)) (gdel gr k)
            -- parts
            obtain ⟨REST, hREST⟩ : ∃ REST, REST = R2.base ++ (A ++ (B ++ extsR ((gdel gr k).filter (keepK d (usesOf rs))))) := ⟨_, rfl⟩
            have hperm : (extsR ((rput gr k row').filter (keepK d (usesOf rs)))).Perm (extsL gs' ++ REST) := by
              refine hpL.trans ?_
              simp only [GR.exts, hbase, hbase2, e2, hREST, List.append_assoc]
              have q : (R2.base ++ A ++ extsL gs').Perm (extsL gs' ++ (R2.base ++ A)) := List.perm_append_comm
              have := q.append_right (B ++ extsR ((gdel gr k).filter (keepK d (usesOf rs))))
              simpa only [List.append_assoc] using this
            have hrest : (extsR gr).Perm (REST ++ (extsL gs ++ D1)) := by
              refine hpG.trans ?_
              simp only [GR.exts, e1, hREST, List.append_assoc]
              refine List.Perm.append_left _ (List.Perm.append_left _ ?_)
              have q : (extsL gs ++ (B ++ extsR (gdel gr k))).Perm (extsL gs ++ (B ++ (extsR ((gdel gr k).filter (keepK d (usesOf rs))) ++ D1))) := List.Perm.append_left _ (List.Perm.append_left _ hD1)
              refine q.trans ?_
              have q2 : (extsL gs ++ (B ++ extsR ((gdel gr k).filter (keepK d (usesOf rs))))).Perm ((B ++ extsR ((gdel gr k).filter (keepK d (usesOf rs)))) ++ extsL gs) := List.perm_append_comm
              have := q2.append_right D1
              simpa only [List.append_assoc] using this
            have hRin : ∀ b o, inE REST b o → ∃ S, S ∈ gr ∧ S.key ∉ usesOf rs ∧ inE S.exts b o := by
              intro b o hr
              rw [hREST] at hr
              have inR : (inE R2.base b o ∨ inE (extsL R2.row) b o) → ∃ S, S ∈ gr ∧ S.key ∉ usesOf rs ∧ inE S.exts b o := fun hh => ⟨R2, hR0, by rw [hkR0]; exact hku, GR.inE_exts.2 hh⟩
              rcases inE_append.1 hr with hr | hr
              · exact inR (.inl hr)
              · rcases inE_append.1 hr with hr | hr
                · exact inR (.inr (by rw [e1]; exact inE_append.2 (.inl (inE_append.2 (.inl hr)))))
                · rcases inE_append.1 hr with hr | hr
                  · exact inR (.inr (by rw [e1]; exact inE_append.2 (.inr hr)))
                  · obtain ⟨S, s1, s2⟩ := inE_extsR.1 hr
                    obtain ⟨s3, s4⟩ := List.mem_filter.1 s1
                    exact ⟨S, (mem_gdel.1 s3).1, (keepK_true s4).2, s2⟩
            have hNo : ∀ b o, inE (extsL gs') b o → inE Eo.flatten b o := by
              intro b o he
              rcases hEo with ⟨_, _, h3⟩ | ⟨_, b', o', _, _, h3⟩
              · rw [h3]; exact he
              · rw [h3]; exact inE_append.2 (.inr he)
            have hErN : ∀ b o, inE (Er.flatten ++ extsL gs') b o → inE (Er.flatten ++ Eo.flatten) b o := fun b o he => (inE_append.1 he).elim (fun h => inE_append.2 (.inl h)) (fun h => inE_append.2 (.inr (hNo b o h)))
            have hapN : Apart (Er.flatten ++ extsL gs') := by
              rcases hEo with ⟨_, _, h3⟩ | ⟨_, b', o', _, _, h3⟩
              · rw [h3] at hap; exact hap
              · rw [h3] at hap
                have := Apart.append.1 hap
                exact Apart.append.2 ⟨this.1, (Apart.append.1 this.2.1).2.1, fun b o h1 h2 => this.2.2 b o h1 (inE_append.2 (.inr h2))⟩
            have hapRest := Apart.append.1 (h.apart.perm hrest)
            -- what the call may touch: the lent cells, or used roots
            have hXcase : ∀ b o, inE Es.flatten b o → (inE (extsL gs) b o ∨ (∃ b0 o0, addrG p R2.loc R2.row = some (b0, o0) ∧ b = b0 ∧ o0 ≤ o ∧ o < o0 + gs'.length ∧ inE [.reg b0 o0 gs.length] b o ∧ Eo.flatten = [.reg b0 o0 gs.length] ++ extsL gs')) ∨ ∃ R, R ∈ gr ∧ R.key ∈ usesOf rs ∧ inE R.exts b o := by
              intro b o he
              rcases q5 b o he with he | he
              · refine .inl ?_
                rcases hEo with ⟨_, h2, _⟩ | ⟨_, b', o', h1, h2, h3⟩
                · rw [h2] at he; exact .inl he
                · rw [h2] at he
                  rcases inE_append.1 he with he | he
                  · have hh := inE_one.1 he
                    simp only [Ext.has] at hh
                    exact .inr ⟨b', o', h1, hh.1, hh.2.1, by rw [hlen]; exact hh.2.2, he, h3⟩
                  · exact .inl he
              · exact .inr he
            refine call_core h c3 (noD_iff c2) hE hX (grA := rput gr k row') (N := extsL gs') (REST := REST) (D := extsL gs ++ D1) (Cv := frzOf rs = []) hroots hkA hcomps hcl hperm hrest hapN ?_ (hconv hNo) ?_ ?_ ?_
            · intro b o he hlt
              have hes := hin b o (hErN b o he) hlt
              refine ⟨hX b o hes, fun hr => ?_⟩
              rcases hXcase b o hes with (h1 | ⟨b0, o0, _, _, _, _, h2, h3⟩) | ⟨R, r1, r2, r3⟩
              · exact hapRest.2.2 b o hr (inE_append.2 (.inl h1))
              · rw [h3] at hap
                have hap' := Apart.append.1 hap
                rcases inE_append.1 he with he | he
                · exact hap'.2.2 b o he (inE_append.2 (.inl h2))
                · exact (Apart.append.1 hap'.2.1).2.2 b o h2 he
              · obtain ⟨S, s1, s2, s3⟩ := hRin b o hr
                exact h.root_apart r1 s1 (fun e => s2 (by rw [e]; exact r2)) b o r3 s3
            · intro gr3 hin3 hO' R hR hkp
              rcases mem_rput hR with ⟨t1, t2⟩ | ⟨R', t1, t2, rfl⟩
              · refine .inl ⟨t1, fun b o he hx => ?_⟩
                obtain ⟨S, r1, r2, r3⟩ := cases_inE h hc b o hx
                refine h.root_apart r1 t1 (fun e => ?_) b o r3 he
                rcases hkeysP _ r2 with r2 | r2
                · exact t2 (e.trans r2)
                · exact (keepK_true hkp).2 (by rw [e]; exact r2)
              · obtain rfl := h.uniq t1 hR0 (t2.trans hkR0.symm)
                have hused : ∀ b o, inE R'.exts b o → ∀ R, R ∈ gr → R.key ∈ usesOf rs → inE R.exts b o → False := fun b o h1 R r1 r2 r3 =>
                  h.root_apart r1 hR0 (fun e => hku (by rw [← hkR0, e]; exact r2)) b o r3 h1
                have hg' : SatL w' (OW Z gr3) gs' := hconv hNo gr3 gs' hin3 (hclean.imp id fun h => by rw [hgo]; exact h.2) hsat'
                have := lent_row hE (fun b o hx => .inl (hX b o hx)) hO' (h.sat R' hR0) (h.mem R' hR0) hgs' hset hg' ?_ ?_ (Bs := R'.base) (fun b o hb i hi => GR.base_in hb i hi) (h.exts_apart hR0)
                · refine .inr ⟨this.1, this.2, fun b o hb => ?_⟩
                  simp only [setG_length hset]
                  exact hE.blk _ _ (h.blk R' hR0 b o hb)
                · intro b o ha
                  cases isRef with
                  | true => exact hmem' rfl b o ha
                  | false =>
                    have hm := getG_mem (h.sat R' hR0) (h.mem R' hR0) hgs ha
                    refine Mem.of_vals (Mem_evo hE hm ?_) (hvals rfl).symm
                    intro b' o' hb i hi hx
                    cases hb
                    have hinR := addrG_inE (h.sat R' hR0) (fun b o hb i hi => GR.base_in hb i hi) hset ha i (by rw [hlen]; exact hi)
                    rcases hXcase _ _ hx with (h1 | ⟨b0, o0, _, _, _, _, _, h3⟩) | ⟨R, r1, r2, r3⟩
                    · exact addr_apart hgs' hset rfl ha (fun b o hb i hi => GR.base_in hb i hi) (h.exts_apart hR0) i (by rw [hlen]; exact hi) h1
                    · rcases hEo with ⟨_, hE2, h4⟩ | ⟨h4, _⟩
                      · -- the lent cells are no reference's
                        rcases q5 _ _ hx with hx' | hx'
                        · rw [hE2] at hx'
                          exact addr_apart hgs' hset rfl ha (fun b o hb i hi => GR.base_in hb i hi) (h.exts_apart hR0) i (by rw [hlen]; exact hi) hx'
                        · obtain ⟨R, r1, r2, r3⟩ := hx'
                          exact hused _ _ hinR R r1 r2 r3
                      · cases h4
                    · exact hused _ _ hinR R r1 r2 r3
                · intro b o he hx
                  rcases hXcase b o hx with (h1 | ⟨b0, o0, h1, h2, h3, h4, _⟩) | ⟨R, r1, r2, r3⟩
                  · exact .inl h1
                  · exact .inr ⟨b0, o0, h1, h2, h3, h4⟩
                  · exact (hused b o he R r1 r2 r3).elim
            · intro q hq R hR hkq
              rcases mem_rput hR with ⟨t1, t2⟩ | ⟨R', t1, t2, rfl⟩
              · exact h.pin q hq R t1 hkq
              · obtain rfl := h.uniq t1 hR0 (t2.trans hkR0.symm)
                have := h.pin q hq R' hR0 hkq
                refine ⟨this.1, fun hln => ?_, by simp only [setG_length hset]; exact this.2.2⟩
                have hl' : R'.loc = none := this.1.trans hln
                show row'.map GV.val = q.vals
                rw [← this.2.1 hln]
                cases isRef with
                | false => exact setG_same_vals hgs' hset (hvals rfl)
                | true =>
                  rcases hEo with ⟨h4, _⟩ | ⟨_, b', o', h1, _⟩
                  · cases h4
                  · rw [hl'] at h1
                    cases p with
                    | nil => cases h1
                    | cons o0 p =>
                      cases p with
                      | nil => cases h1
                      | cons o1 p => exact setG_deep_vals hset
            · intro tv htv
              cases isRef with
              | true =>
                simp only [safeQ] at htv
                rw [← hn, ← hlen] at htv
                refine TV.safe_keeps (k := k) (new := gs') (fun S hS hne => rput_other hS hne) (fun S hS hk => ?_) htv
                obtain rfl := h.uniq hS hR0 (hk.trans hkR0.symm)
                exact ⟨_, rput_same hR0 hkR0, hkR0, rfl, hset⟩
              | false =>
                simp only [safeQ] at htv
                refine TV.safeI_keeps (k := k) (n := n) (fun S hS hne => rput_other hS hne) (fun S hS hk => ?_) htv
                obtain rfl := h.uniq hS hR0 (hk.trans hkR0.symm)
                exact ⟨_, gs, gs', rput_same hR0 hkR0, hkR0, rfl, hgs', hset, hvals rfl, by rw [hlen, hn]⟩
          · cases hb
        · cases hb
end

end Go.Proofs.YtddfcajdelfikaaDoor.Vm
