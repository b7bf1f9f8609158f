/- What a call needs: rows that are clean, a part of a root that is lent, states made anew. -/
import Derived.Test.YtddfcajdelfikaaDoorVm17
set_option linter.unusedVariables false
set_option linter.unusedSimpArgs false
set_option linter.unusedSectionVars false
namespace Go.Proofs.YtddfcajdelfikaaDoor.Vm
open Go
open GV (absL extsL fzL)
open PV (frzL)

mutual
/-- No leaf looks into memory of others. -/
def PV.clean : PV → Bool
  | .sl own _ _ cells => (own || cells.isEmpty) && PV.cleanL cells
  | _ => true
def PV.cleanL : List PV → Bool
  | [] => true
  | p :: ps => p.clean && PV.cleanL ps
end

mutual
theorem sat_clean {w : World} {O O2 : Nat → Nat → Prop} : ∀ (g : GV), Sat w O g → g.abs.clean = true → Sat w O2 g
  | .sc v p, h, _ => h
  | .sl own sz n cap a cells, h, hc => by
    simp only [Sat] at h ⊢
    obtain ⟨h1, h2, h3, h4, h5, h6, h7⟩ := h
    simp only [GV.abs, PV.clean, Bool.and_eq_true, Bool.or_eq_true] at hc
    refine ⟨h1, h2, h3, h4, fun b o hb => ⟨(h5 b o hb).1, fun ho i hi => ?_⟩, h6, satL_clean cells h7 hc.2⟩
    rcases hc.1 with q | q
    · rw [ho] at q; cases q
    · have : cells = [] := by
        cases cells with
        | nil => rfl
        | cons => simp [GV.absL] at q
      rw [this] at hi
      cases hi
theorem satL_clean {w : World} {O O2 : Nat → Nat → Prop} : ∀ (gs : List GV), SatL w O gs → PV.cleanL (absL gs) = true → SatL w O2 gs
  | [], _, _ => trivial
  | g :: gs, h, hc => by
    simp only [SatL] at h ⊢
    simp only [GV.absL, PV.cleanL, Bool.and_eq_true] at hc
    exact ⟨sat_clean g h.1 hc.1, satL_clean gs h.2 hc.2⟩
end

/-- A part of a row was lent, and has come back: the row. -/
theorem lent_row {w w' : World} {O O' X : Nat → Nat → Prop} (hE : Evo w w' X) (hXO : ∀ b o, X b o → O b o) (hO' : ∀ b o, O' b o → b < w.heap.size → O b o) :
    ∀ {p : List Nat} {row old new row' : List GV} {base : Option (Nat × Nat)} {Bs : List Ext},
    SatL w O row → Mem w base row → getG p row new.length = some old → setG p row new = some row' → SatL w' O' new →
    (∀ b o, addrG p base row = some (b, o) → Mem w' (some (b, o)) new) →
    (∀ b o, inE (Bs ++ extsL row) b o → X b o → inE (extsL old) b o ∨ ∃ b0 o0, addrG p base row = some (b0, o0) ∧ b = b0 ∧ o0 ≤ o ∧ o < o0 + new.length) →
    (∀ b o, base = some (b, o) → ∀ i, i < row.length → inE Bs b (o + i)) → Apart (Bs ++ extsL row) → SatL w' O' row' ∧ Mem w' base row'
  | [], _, _, _, _, _, _, _, _, h, _, _, _, _, _, _ => by cases h
  | [o0], row, old, new, row', base, Bs, hs, hm, hg, h, hsn, hn, hXin, hB, hap => by
    have hg0 := hg
    simp only [getG] at hg
    simp only [setG] at h
    split at h
    · rename_i hl
      rw [if_pos hl] at hg
      cases h
      cases hg
      have hap' := Apart.append.1 hap
      have hsplit := extsL_split row o0 new.length
      have hap2 := hap'.2.1
      rw [hsplit] at hap2
      have hap3 := Apart.append.1 hap2
      have hap4 := Apart.append.1 hap3.1
      have addr : ∀ b0 o1, addrG [o0] base row = some (b0, o1) → ∃ oo, base = some (b0, oo) ∧ o1 = oo + o0 := by
        intro b0 o1 ha
        simp only [addrG] at ha
        cases base with
        | none => cases ha
        | some x => simp only [Option.map_some, Option.some.injEq, Prod.mk.injEq] at ha; exact ⟨x.2, by rw [← ha.1], ha.2.symm⟩
      have noX : ∀ g, (g ∈ row.take o0 ∨ g ∈ row.drop (o0 + new.length)) → g ∈ row → ∀ b o, inE g.exts b o → ¬ X b o := by
        intro g hg' hgr b o he hx
        have hrow : inE (extsL row) b o := inE_extsL.2 ⟨g, hgr, he⟩
        rcases hXin b o (inE_append.2 (.inr hrow)) hx with h1 | ⟨b0, o1, ha, rfl, h2, h3⟩
        · rcases hg' with hg' | hg'
          · exact hap4.2.2 b o (inE_extsL.2 ⟨g, hg', he⟩) h1
          · exact hap3.2.2 b o (inE_append.2 (.inr h1)) (inE_extsL.2 ⟨g, hg', he⟩)
        · obtain ⟨oo, hb, rfl⟩ := addr _ _ ha
          have := hB _ _ hb (o - oo) (by omega)
          rw [Nat.add_sub_cancel' (by omega)] at this
          exact hap'.2.2 _ _ this hrow
      refine ⟨?_, ?_⟩
      · refine SatL_append.2 ⟨SatL_append.2 ⟨?_, hsn⟩, ?_⟩
        · exact SatL_iff.2 fun g hg' => Sat_evo hE hXO hO' g (SatL_iff.1 hs g (List.mem_of_mem_take hg')) (noX g (.inl hg') (List.mem_of_mem_take hg'))
        · exact SatL_iff.2 fun g hg' => Sat_evo hE hXO hO' g (SatL_iff.1 hs g (List.mem_of_mem_drop hg')) (noX g (.inr hg') (List.mem_of_mem_drop hg'))
      · refine Mem_write hE hl hm ?_ ?_
        · intro b ob hb i hi hx
          have hin := hB b ob hb i hi
          rcases hXin b _ (inE_append.2 (.inl hin)) hx with h1 | ⟨b0, o1, ha, rfl, h2, h3⟩
          · exact (hap'.2.2 _ _ hin (by rw [hsplit]; exact inE_append.2 (.inl (inE_append.2 (.inr h1))))).elim
          · obtain ⟨oo, hb', rfl⟩ := addr _ _ ha
            rw [hb] at hb'
            cases hb'
            omega
        · intro b ob hb
          exact hn b (ob + o0) (by simp only [addrG, hb]; rfl)
    · cases h
  | o0 :: o' :: p, row, old, new, row', base, Bs, hs, hm, hg, h, hsn, hn, hXin, hB, hap => by
    simp only [getG] at hg
    simp only [setG] at h
    split at h
    · rename_i sz m cap a cells hgo
      simp only [hgo] at hg
      simp only [Option.map_eq_some_iff] at h
      obtain ⟨c, hc, rfl⟩ := h
      have haddr : addrG (o0 :: o' :: p) base row = addrG (o' :: p) a cells := by simp only [addrG, hgo]
      rw [haddr] at hn hXin
      have hsat := hs.get hgo
      simp only [Sat] at hsat
      obtain ⟨s1, s2, s3, s4, s5, s6, s7⟩ := hsat
      have hmemG : GV.sl true sz m cap a cells ∈ row := List.mem_of_getElem? hgo
      have hapG : Apart (ownExt true a ++ extsL cells) := by
        obtain ⟨A, B, e1, e2⟩ := extsL_set hgo (.sl true sz m cap a c)
        have hap1 := hap
        rw [e1] at hap1
        have h1 := (Apart.append.1 hap1).2.1
        have h2 := (Apart.append.1 (Apart.append.1 h1).1).2.1
        simpa only [GV.exts] using h2
      have hleaf : ∀ b o, inE (ownExt true a ++ extsL cells) b o → inE (extsL row) b o := fun b o he => inE_extsL.2 ⟨_, hmemG, by simpa only [GV.exts] using he⟩
      have hBG : ∀ b o, a = some (b, o) → ∀ i, i < cells.length → inE (ownExt true a) b (o + i) := fun b o hb i hi => by subst hb; exact inE_one.2 rfl
      obtain ⟨t1, t2⟩ := lent_row hE hXO hO' s7 s4 hg hc hsn hn (fun b o he hx => hXin b o (inE_append.2 (.inr (hleaf b o he))) hx) hBG hapG
      -- what changes lies in the leaf
      have hXleaf : ∀ b o, inE (Bs ++ extsL row) b o → X b o → inE (ownExt true a ++ extsL cells) b o := by
        intro b o he hx
        rcases hXin b o he hx with h1 | ⟨b0, o1, ha, rfl, h2, h3⟩
        · obtain ⟨A, B, e1, _⟩ := setG_exts hg hc
          exact inE_append.2 (.inr (by rw [e1]; exact inE_append.2 (.inl (inE_append.2 (.inr h1)))))
        · have := addrG_inE (Bs := ownExt true a) s7 hBG hc ha (o - o1) (by omega)
          rwa [Nat.add_sub_cancel' h2] at this
      have hap' := Apart.append.1 hap
      refine ⟨?_, ?_⟩
      · refine SatL_iff.2 fun g hgm => ?_
        rw [List.mem_iff_getElem?] at hgm
        obtain ⟨i, hi⟩ := hgm
        have ho0 : o0 < row.length := (List.getElem?_eq_some_iff.1 hgo).1
        rw [List.getElem?_set] at hi
        split at hi
        · rename_i heq
          first | rw [if_pos (by omega)] at hi | skip
          cases hi
          simp only [Sat]
          refine ⟨by rw [setG_length hc]; exact s1, s2, s3, t2, ?_, fun h => absurd h (by decide), t1⟩
          intro b' o'' hb
          exact ⟨fun _ => hE.blk _ _ ((s5 b' o'' hb).1 trivial), fun h => absurd h (by decide)⟩
        · rename_i hne
          refine Sat_evo hE hXO hO' g (hs.get hi) fun b' o'' he hx => ?_
          have hl := hXleaf b' o'' (inE_append.2 (.inr (inE_extsL.2 ⟨g, List.mem_of_getElem? hi, he⟩))) hx
          have hap1 := hap'.2.1
          rcases Nat.lt_or_gt_of_ne hne with hlt | hlt
          · have e : row = row.take i ++ row.drop i := (List.take_append_drop i row).symm
            rw [e, extsL_append] at hap1
            refine (Apart.append.1 hap1).2.2 b' o'' (inE_extsL.2 ⟨.sl true sz m cap a cells, ?_, by simpa only [GV.exts] using hl⟩) (inE_extsL.2 ⟨g, ?_, he⟩)
            · exact List.mem_of_getElem? (i := o0) (by rw [List.getElem?_take, if_pos hlt]; exact hgo)
            · exact List.mem_of_getElem? (i := 0) (by rw [List.getElem?_drop]; simpa using hi)
          · have e : row = row.take o0 ++ row.drop o0 := (List.take_append_drop o0 row).symm
            rw [e, extsL_append] at hap1
            refine (Apart.append.1 hap1).2.2 b' o'' (inE_extsL.2 ⟨g, ?_, he⟩) (inE_extsL.2 ⟨.sl true sz m cap a cells, ?_, by simpa only [GV.exts] using hl⟩)
            · exact List.mem_of_getElem? (i := i) (by rw [List.getElem?_take, if_pos hlt]; exact hi)
            · exact List.mem_of_getElem? (i := 0) (by rw [List.getElem?_drop]; simpa using hgo)
      · intro b' ob hb i g hgi
        have ho0 : o0 < row.length := (List.getElem?_eq_some_iff.1 hgo).1
        have hne : ∀ i, i < row.length → ¬ X b' (ob + i) := by
          intro i hi hx
          have h1 := hB b' ob hb i hi
          have h2 := hXleaf b' (ob + i) (inE_append.2 (.inl h1)) hx
          exact hap'.2.2 _ _ h1 (hleaf _ _ h2)
        rw [List.getElem?_set] at hgi
        split at hgi
        · rename_i heq
          subst heq
          first | rw [if_pos ho0] at hgi | skip
          cases hgi
          have hc0 := hm b' ob hb o0 _ hgo
          rw [hE.cell b' _ (at_lt hc0) (hne o0 ho0)]
          exact hc0
        · have hc0 := hm b' ob hb i g hgi
          rw [hE.cell b' _ (at_lt hc0) (hne i (List.getElem?_eq_some_iff.1 hgi).1)]
          exact hc0
    · cases h

/-- Deep in a row a set changes none of the row's own values. -/
theorem setG_deep_vals : ∀ {o0 o1 : Nat} {p : List Nat} {row new row' : List GV}, setG (o0 :: o1 :: p) row new = some row' → row'.map GV.val = row.map GV.val := by
  intro o0 o1 p row new row' h
  simp only [setG] at h
  split at h
  · rename_i sz m cap a cells hg
    simp only [Option.map_eq_some_iff] at h
    obtain ⟨c, hc, rfl⟩ := h
    rw [List.map_set]
    have : GV.val (.sl true sz m cap a c) = GV.val (.sl true sz m cap a cells) := rfl
    rw [this]
    apply List.ext_getElem?
    intro i
    rw [List.getElem?_set]
    split
    · rename_i heq
      subst heq
      split
      · simp only [List.getElem?_map, hg, Option.map_some]
      · rename_i hlt
        simp only [List.length_map] at hlt
        have := (List.getElem?_eq_some_iff.1 hg).1
        omega
    · rfl
  · cases h

/-- A set of cells that bear the same values changes none of the row's values. -/
theorem setG_same_vals : ∀ {p : List Nat} {row old new row' : List GV}, getG p row new.length = some old → setG p row new = some row' → new.map GV.val = old.map GV.val → row'.map GV.val = row.map GV.val
  | [], _, _, _, _, h, _, _ => by cases h
  | [o], row, old, new, row', hg, h, hv => by
    simp only [getG] at hg
    simp only [setG] at h
    split at h
    · rename_i hl
      rw [if_pos hl] at hg
      cases h
      cases hg
      rw [List.map_append, List.map_append, hv, ← List.map_append, ← List.map_append]
      congr 1
      rw [List.append_assoc, ← List.drop_drop, List.take_append_drop, List.take_append_drop]
    · cases h
  | o0 :: o1 :: p, row, old, new, row', _, h, _ => setG_deep_vals h

section
variable {Z : Nat → Nat → Prop} {w0 : World} {E0 : List Ext} {pins : List Pin} {gr : List GR} {a : Act} {w : World} {st : St}

/-- The general step, with roots made anew. -/
theorem Rel.renew (h : Rel Z w0 E0 pins gr a w st) {gr' : List GR} {X : Nat → Nat → Prop} {w' : World} (hE : Evo w w' X) (hX : ∀ b o, X b o → inE (extsR gr) b o)
    (hap : Apart (extsR gr')) (hI : ∀ b o, inE (extsR gr') b o → b < w.heap.size → inE (extsR gr) b o) (hk : (gr'.map GR.key).Nodup)
    (hR : ∀ R, R ∈ gr' → (R ∈ gr ∧ ∀ b o, inE R.exts b o → ¬ X b o) ∨
      (SatL w' (OW Z gr') R.row ∧ Mem w' R.loc R.row ∧ ∀ b o, R.loc = some (b, o) → Blk w' b (o + R.row.length)))
    (hpin : ∀ p, p ∈ pins → PinOk gr' p) {env' : List (Key × TV)} (henv : ∀ e, e ∈ env' → e ∈ st.env ∧ KeepsTV gr gr' e.2) :
    Rel Z w0 E0 pins gr' a w' { st with env := env', roots := gr'.map GR.root } := by
  have hO' : ∀ b o, OW Z gr' b o → b < w.heap.size → OW Z gr b o := fun b o h hb => h.elim (fun h => .inl (hI b o h hb)) .inr
  have hXW : ∀ b o, X b o → OW Z gr b o := fun b o h => .inl (hX b o h)
  refine ⟨rfl, hk, hap, ?_, ?_, ?_, ?_, ?_, hpin, h.pk, ?_, h.size, h.defers⟩
  · intro R hR'
    rcases hR R hR' with ⟨h1, h2⟩ | ⟨h1, _⟩
    · exact SatL_evo hE hXW hO' R.row (h.sat R h1) fun b o he => h2 b o (GR.inE_exts.2 (.inr he))
    · exact h1
  · intro R hR'
    rcases hR R hR' with ⟨h1, h2⟩ | ⟨_, h1, _⟩
    · exact Mem_evo hE (h.mem R h1) fun b o hl i hi => h2 b _ (GR.inE_exts.2 (.inl (GR.base_in hl i hi)))
    · exact h1
  · intro R hR' b o hl
    rcases hR R hR' with ⟨h1, h2⟩ | ⟨_, _, h1⟩
    · exact hE.blk _ _ (h.blk R h1 b o hl)
    · exact h1 b o hl
  · intro b o he hb
    exact h.own b o (hI b o he (Nat.lt_of_lt_of_le hb h.evo.size)) hb
  · exact h.evo.trans hE (fun b o _ hx => hx) (fun b o hb hx => h.own b o (hX b o hx) hb)
  · intro e he
    obtain ⟨h1, h2⟩ := henv e he
    exact EntOk.carry hE hXW hO' hX hI h2 (h.env e h1)
end

end Go.Proofs.YtddfcajdelfikaaDoor.Vm
