/- Roots that come, move and are written. -/
import Derived.Test.YtddfcajdelfikaaDoorVm5
import Derived.Laws.AppendOwn
set_option linter.unusedVariables false
set_option linter.unusedSimpArgs false
set_option linter.unusedSectionVars false
namespace Go.Proofs.YtddfcajdelfikaaDoor.Vm
open Go
open GV (absL extsL fzL)
open PV (frzL)

/-! ### worlds -/

theorem evo_alloc (w : World) (o : Obj) (X : Nat → Nat → Prop) : Evo w (w.alloc o) X where
  os := rfl
  tape := rfl
  output := rfl
  size := by simp
  cell b o' hb _ := by
    show (w.alloc o).cell? _ = w.cell? _
    simp only [World.cell?, heap_alloc_old w o b hb]
  obj b hb _ := heap_alloc_old w o b hb
  blk b m h := by
    obtain ⟨c, e, fr, h1, h2⟩ := h
    exact ⟨c, e, fr, by rw [heap_alloc_old w o b (Array.getElem?_eq_some_iff.1 h1).1]; exact h1, h2⟩

theorem evo_drew (w : World) (X : Nat → Nat → Prop) : Evo w w.drew X :=
  ⟨rfl, rfl, rfl, Nat.le_refl _, fun _ _ _ _ => rfl, fun _ _ _ => rfl, fun _ _ h => h⟩

theorem at_alloc (w : World) (cs : Array Value) (e : TypeId) (i : Nat) : at_ (w.alloc (.cells cs e)) w.heap.size i = cs[i]? := by
  show (w.alloc (.cells cs e)).cell? _ = _
  simp only [World.cell?, heap_alloc_new]
  rfl

theorem blk_alloc (w : World) (cs : Array Value) (e : TypeId) {m : Nat} (h : m ≤ cs.size) : Blk (w.alloc (.cells cs e)) w.heap.size m :=
  ⟨cs, e, (0, 0), heap_alloc_new w _, h, fun j _ => by simp⟩

theorem mem_alloc (w : World) (gs : List GV) (rest : List Value) (e : TypeId) : Mem (w.alloc (.cells (gs.map GV.val ++ rest).toArray e)) (some (w.heap.size, 0)) gs := by
  intro b o hb i g hg
  cases hb
  rw [Nat.zero_add, at_alloc]
  have hi := (List.getElem?_eq_some_iff.1 hg).1
  simp [List.getElem?_append_left (show i < (gs.map GV.val).length by simpa using hi), hg]

theorem run_storeCells_blk (P : Program) (g o : Nat) (t : TypeId) (fr : Nat × Nat) : ∀ (vs : List Value) (i : Nat) (cur : Array Value) (w : World), w.heap[g]? = some (.cells cur t fr) →
    (∀ j, j < cur.size → ¬ (fr.1 ≤ j ∧ j < fr.2)) → o + i + vs.length ≤ cur.size → (∀ v, v ∈ vs → v.oneCell' = true) →
    (storeCells ⟨g, o, none⟩ vs i).run P w = .ok () (w.setRow g (cur.toList.take (o + i) ++ vs ++ cur.toList.drop (o + i + vs.length)).toArray)
  | [], i, cur, w, hg, _, _, _ => by
    simp only [storeCells, List.append_nil, List.length_nil, Nat.add_zero, List.take_append_drop, Array.toArray_toList]
    rw [setRow_self w g cur t fr hg]
    rfl
  | v :: rest, i, cur, w, hg, hfr, hl, h1 => by
    have hi : o + i < cur.size := by simp at hl; omega
    have hcell : w.cell? ⟨g, o + i, none⟩ = some cur[o + i] := by simp [World.cell?, hg, hi]
    have hfro : w.frozen? ⟨g, o + i, none⟩ = false := by
      have := hfr (o + i) hi
      simp only [World.frozen?, hg]
      rw [Bool.eq_false_iff]
      simpa using this
    have hst : (store ((⟨g, o, none⟩ : Addr).add i) v).run P w = .ok () (w.setRow g (cur.setIfInBounds (o + i) v)) := by
      rw [Addr.add_lit, run_store P w _ v _ (h1 v (by simp)), hcell]
      simp [hfro, setCell_eq_setRow w g (o + i) cur t fr v hg]
    have ih := run_storeCells_blk P g o t fr rest (i + 1) (cur.setIfInBounds (o + i) v) (w.setRow g (cur.setIfInBounds (o + i) v)) (setRow_heap w g cur _ t fr hg) (by simpa using hfr)
      (by simp at hl ⊢; omega) (fun x hx => h1 x (by simp [hx]))
    simp only [storeCells, Sem.run_bind, hst, Result.andThen_ok, ih, setRow_setRow]
    congr 3
    have e := list_seg_step cur.toList (o + i) v rest (by simp at hl ⊢; omega)
    simpa [Array.toList_setIfInBounds, Nat.add_assoc] using e

/-- A run of stores into a row of cells: what it leaves. -/
theorem run_stores (P : Program) {w : World} {b o m : Nat} {vs : List Value} (hb : Blk w b m) (hl : o + vs.length ≤ m) (h1 : ∀ v, v ∈ vs → v.oneCell' = true) :
    ∃ w', (storeCells ⟨b, o, none⟩ vs).run P w = .ok () w' ∧ Evo w w' (fun b' o' => b' = b ∧ o ≤ o' ∧ o' < o + vs.length) ∧ (∀ j v, vs[j]? = some v → at_ w' b (o + j) = some v) := by
  obtain ⟨c, e, fr, hc, hm, hf⟩ := hb
  have hr := run_storeCells_blk P b o e fr vs 0 c w hc hf (by omega) h1
  simp only [Nat.add_zero] at hr
  refine ⟨_, hr, ?_, ?_⟩
  · refine ⟨rfl, rfl, rfl, by simp, ?_, ?_, ?_⟩
    · intro b' o' hb' hx
      by_cases hbb : b' = b
      · subst hbb
        have h1 : at_ (w.setRow b' (c.toList.take o ++ vs ++ c.toList.drop (o + vs.length)).toArray) b' o' = (c.toList.take o ++ vs ++ c.toList.drop (o + vs.length)).toArray[o']? := by
          show World.cell? _ _ = _
          rw [cell_of_row _ b' o' _ e fr (setRow_heap w b' c _ e fr hc)]
        have h2 : at_ w b' o' = c[o']? := by
          show World.cell? _ _ = _
          rw [cell_of_row _ b' o' c e fr hc]
        rw [h1, h2, List.getElem?_toArray]
        by_cases ho : o' < o
        · rw [List.append_assoc, List.getElem?_append_left (by simp; omega), List.getElem?_take, if_pos ho]
          simp
        · have hge : o + vs.length ≤ o' := by
            have : ¬ (o ≤ o' ∧ o' < o + vs.length) := fun h => hx ⟨rfl, h⟩
            omega
          have hlen : (c.toList.take o ++ vs).length = o + vs.length := by simp; omega
          rw [List.getElem?_append_right (by omega), List.getElem?_drop, hlen]
          simp only [Array.getElem?_toList]
          congr 1
          omega
      · show World.cell? _ _ = World.cell? _ _
        exact cell_setRow_other w b _ ⟨b', o', none⟩ hbb
    · intro b' hb' hx
      by_cases hbb : b' = b
      · subst hbb
        have hvs : vs.length = 0 := by
          rcases Nat.eq_zero_or_pos vs.length with h | h
          · exact h
          · exact absurd ⟨rfl, Nat.le_refl _, by omega⟩ (hx o)
        have : vs = [] := List.eq_nil_of_length_eq_zero hvs
        subst this
        simp only [List.append_nil, List.length_nil, Nat.add_zero, List.take_append_drop, Array.toArray_toList]
        rw [setRow_self w b' c e fr hc]
      · exact setRow_other w b b' _ hbb
    · intro b' m' h
      by_cases hbb : b' = b
      · subst hbb
        obtain ⟨c2, e2, fr2, q1, q2, q3⟩ := h
        rw [hc] at q1
        cases q1
        refine ⟨_, e, fr, setRow_heap w b' c _ e fr hc, ?_, ?_⟩
        · simp only [List.size_toArray, List.length_append, List.length_take, List.length_drop, Array.length_toList]; omega
        · intro j hj
          refine hf j ?_
          simp only [List.size_toArray, List.length_append, List.length_take, List.length_drop, Array.length_toList] at hj
          omega
      · obtain ⟨c2, e2, fr2, q1, q2⟩ := h
        exact ⟨c2, e2, fr2, by rw [setRow_other w b b' _ hbb]; exact q1, q2⟩
  · intro j v hv
    show World.cell? _ _ = _
    rw [cell_of_row _ b (o + j) _ e fr (setRow_heap w b c _ e fr hc), List.getElem?_toArray]
    have hj := (List.getElem?_eq_some_iff.1 hv).1
    have hlen : (c.toList.take o).length = o := by simp; omega
    rw [List.append_assoc, List.getElem?_append_right (by omega), List.getElem?_append_left (by omega), hlen]
    simpa using hv

/-! ### a new root -/

theorem hasKey_false {l : List Key} {k : Key} (h : hasKey l k = false) : k ∉ l := by
  intro hk
  rw [hasKey_iff.2 hk] at h
  cases h

/-- A root as it was, or one in its place that bears the same values. -/
def Like (Z : Nat → Nat → Prop) (w : World) (gr : List GR) (R : GR) : Prop :=
  R ∈ gr ∨ ∃ S, S ∈ gr ∧ S.key = R.key ∧ S.loc = R.loc ∧ S.row.map GV.val = R.row.map GV.val ∧
    ∀ O', (∀ b o, O' b o → b < w.heap.size → OW Z gr b o) → SatL w O' R.row

theorem Mem.of_vals {w : World} {base : Option (Nat × Nat)} {gs gs' : List GV} (h : Mem w base gs) (he : gs.map GV.val = gs'.map GV.val) : Mem w base gs' := by
  intro b o hb i g hg
  have : (gs'.map GV.val)[i]? = some g.val := by simp [hg]
  rw [← he, List.getElem?_map] at this
  cases hi : gs[i]? with
  | none => rw [hi] at this; cases this
  | some g' => rw [hi] at this; simp at this; rw [← this]; exact h b o hb i g' hi

/-- What a source of cells is, on the ghost's side: gr0 is what stays when it has gone into something else. -/
structure SrcOk (Z : Nat → Nat → Prop) (w : World) (gr gr0 : List GR) (gs : List GV) : Prop where
  like : ∀ R, R ∈ gr0 → Like Z w gr R
  perm : ∃ D, (extsR gr).Perm (extsR gr0 ++ extsL gs ++ D)
  sat : SatL w (OW Z gr) gs
  keys : (gr0.map GR.key).Nodup

section
variable {Z : Nat → Nat → Prop} {w0 : World} {E0 : List Ext} {pins : List Pin} {gr : List GR} {a : Act} {w : World} {st : St}

theorem Rel.gnew (h : Rel Z w0 E0 pins gr a w st) {gr0 : List GR} {gs : List GV} (hs : SrcOk Z w gr gr0 gs) {k : Key} (hk : hasKey st.pk k = false) {loc : Option (Nat × Nat)} {row' : List GV}
    {w' : World} {F : List Ext} {X : Nat → Nat → Prop} (hE : Evo w w' X) (hX : ∀ b o, X b o → inE (extsL gs) b o) (hF : ∀ b o, inE F b o → w.heap.size ≤ b) (hFa : Apart F)
    (hx : (extsL gs ++ F).Perm ((⟨k, loc, row'⟩ : GR).exts))
    (hnew : ∀ O', (∀ b o, O' b o → b < w.heap.size → OW Z gr b o) → SatL w' O' row')
    (hm : Mem w' loc row') (hb : ∀ b o, loc = some (b, o) → Blk w' b (o + row'.length)) {env0 : List (Key × TV)}
    (henv : ∀ e, e ∈ env0 → e ∈ st.env ∧ KeepsTV gr gr0 e.2) :
    Rel Z w0 E0 pins (⟨k, loc, row'⟩ :: gdel gr0 k) a w' { st with env := keepE (fun tv => !tv.on k) env0, roots := (⟨k, loc, row'⟩ : GR).root :: (gdel gr0 k).map GR.root } ∧
      (∀ b o, OW Z (⟨k, loc, row'⟩ :: gdel gr0 k) b o → b < w.heap.size → OW Z gr b o) := by
  obtain ⟨D, hD⟩ := hs.perm
  obtain ⟨D2, hD2⟩ := gdel_perm gr0 k
  have hp : (extsR gr ++ F).Perm (extsR (⟨k, loc, row'⟩ :: gdel gr0 k) ++ (D2 ++ D)) := by
    simp only [extsR]
    refine (hD.append_right F).trans ?_
    refine List.Perm.trans ?_ (List.Perm.append_right _ (List.Perm.append_right _ hx))
    -- gr0 ++ gs ++ D ++ F ~ gs ++ F ++ gdel ++ D2 ++ D
    have h1 : (extsR gr0 ++ extsL gs ++ D ++ F).Perm ((extsR (gdel gr0 k) ++ D2) ++ extsL gs ++ D ++ F) := ((hD2.append_right _).append_right _).append_right _
    refine h1.trans ?_
    generalize extsR (gdel gr0 k) = A
    generalize extsL gs = B
    -- A D2 B D F ~ B F A D2 D
    have e1 : (A ++ D2 ++ B ++ D ++ F).Perm ((A ++ D2) ++ ((B ++ D) ++ F)) := by simp [List.append_assoc]
    refine e1.trans ?_
    have e2 : ((B ++ D) ++ F).Perm (B ++ F ++ D) := by
      rw [List.append_assoc, List.append_assoc]
      exact List.perm_append_comm.append_left B
    refine (e2.append_left _).trans ?_
    have e3 : (A ++ D2 ++ (B ++ F ++ D)).Perm ((B ++ F) ++ ((A ++ D2) ++ D)) := by
      have := (List.perm_append_comm (l₁ := A ++ D2) (l₂ := B ++ F)).append_right D
      simpa only [List.append_assoc] using this
    refine e3.trans ?_
    simp [List.append_assoc]
  have hkeys : (((⟨k, loc, row'⟩ : GR) :: gdel gr0 k).map GR.key).Nodup := by
    obtain ⟨n1, n2⟩ := gdel_keys (k := k) hs.keys
    exact List.nodup_cons.2 ⟨n2, n1⟩
  have hap : Apart (extsR gr ++ F) := Apart.append.2 ⟨h.apart, hFa, fun b o h1 h2 => absurd (h.lt b o h1) (by have := hF b o h2; omega)⟩
  have hI' : ∀ b o, inE (extsR (⟨k, loc, row'⟩ :: gdel gr0 k)) b o → b < w.heap.size → inE (extsR gr) b o := by
    intro b o he hb
    have : inE (extsR gr ++ F) b o := (inE_perm hp).2 (inE_append.2 (.inl he))
    rcases inE_append.1 this with h1 | h1
    · exact h1
    · exact absurd (hF b o h1) (by omega)
  have hO' : ∀ b o, OW Z (⟨k, loc, row'⟩ :: gdel gr0 k) b o → b < w.heap.size → OW Z gr b o := fun b o h hb => h.elim (fun h => .inl (hI' b o h hb)) .inr
  have hapD := h.apart.perm hD
  have hXO : ∀ b o, X b o → inE (extsR gr) b o := fun b o hx => (inE_perm hD).2 (inE_append.2 (.inl (inE_append.2 (.inr (hX b o hx)))))
  have hRX : ∀ R, R ∈ gr0 → ∀ b o, inE R.exts b o → ¬ X b o := fun R hR b o he hx =>
    (Apart.append.1 (Apart.append.1 hapD).1).2.2 b o (inE_extsR.2 ⟨R, hR, he⟩) (hX b o hx)
  have := h.update (gr' := ⟨k, loc, row'⟩ :: gdel gr0 k) (D := D2 ++ D) hE hXO hF hFa hp hkeys ?_ ?_ (env' := keepE (fun tv => !tv.on k) env0) ?_
  · refine ⟨?_, hO'⟩
    simpa only [List.map_cons] using this.1
  · intro R hR
    rcases List.mem_cons.1 hR with rfl | hR
    · exact .inr ⟨hnew _ hO', hm, hb⟩
    · rcases hs.like R (mem_gdel.1 hR).1 with hl | ⟨S, hS, e1, e2, e3, e4⟩
      · exact .inl ⟨hl, hRX R (mem_gdel.1 hR).1⟩
      · refine .inr ⟨SatL_evo hE (fun b o h => .inl (hXO b o h)) hO' _ (e4 _ (fun b o h _ => h)) (fun b o he => hRX R (mem_gdel.1 hR).1 b o (GR.inE_exts.2 (.inr he))), ?_, ?_⟩
        · exact Mem_evo hE (by rw [← e2]; exact (h.mem S hS).of_vals e3) (fun b o hl i hi => hRX R (mem_gdel.1 hR).1 b _ (GR.inE_exts.2 (.inl (GR.base_in hl i hi))))
        · intro b o hl
          have hlen : S.row.length = R.row.length := by simpa using congrArg List.length e3
          rw [← hlen]
          exact hE.blk _ _ (h.blk S hS b o (by rw [e2]; exact hl))
  · intro p hp R hR hkey
    rcases List.mem_cons.1 hR with rfl | hR
    · exact absurd (h.pk p hp) (by rw [← hkey]; exact hasKey_false hk)
    · rcases hs.like R (mem_gdel.1 hR).1 with hl | ⟨S, hS, e1, e2, e3, e4⟩
      · exact h.pin p hp R hl hkey
      · have := h.pin p hp S hS (e1.trans hkey)
        have hlen : S.row.length = R.row.length := by simpa using congrArg List.length e3
        rw [← e2, ← e3, ← hlen]
        exact this
  · intro e he
    obtain ⟨h1, h2⟩ := mem_keepE.1 he
    obtain ⟨h3, h4⟩ := henv e h1
    refine ⟨h3, ?_⟩
    have h2' : e.2.on k = false := by simpa using h2
    have h5 : KeepsTV gr0 (⟨k, loc, row'⟩ :: gdel gr0 k) e.2 := TV.not_on (fun R hR hne => List.mem_cons_of_mem _ (mem_gdel.2 ⟨hR, hne⟩)) h2'
    exact KeepsTV.trans h4 h5
end

end Go.Proofs.YtddfcajdelfikaaDoor.Vm
