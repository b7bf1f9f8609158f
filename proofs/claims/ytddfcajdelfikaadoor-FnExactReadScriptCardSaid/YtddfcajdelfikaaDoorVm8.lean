/- Stores, values put together, slices made. -/
import Derived.Test.YtddfcajdelfikaaDoorVm7
set_option linter.unusedVariables false
set_option linter.unusedSimpArgs false
set_option linter.unusedSectionVars false
namespace Go.Proofs.YtddfcajdelfikaaDoor.Vm
open Go
open GV (absL extsL fzL)
open PV (frzL)

theorem addrG_blk {w : World} {O : Nat → Nat → Prop} : ∀ {p : List Nat} {row new row' : List GV} {base : Option (Nat × Nat)} {b o : Nat},
    SatL w O row → (∀ b o, base = some (b, o) → Blk w b (o + row.length)) → setG p row new = some row' → addrG p base row = some (b, o) → Blk w b (o + new.length)
  | [], _, _, _, _, _, _, _, _, h, _ => by cases h
  | [o0], row, new, row', base, b, o, hs, hb, h, ha => by
    simp only [setG] at h
    simp only [addrG] at ha
    split at h
    · cases base with
      | none => cases ha
      | some x =>
        obtain ⟨b0, ob⟩ := x
        simp only [Option.map_some, Option.some.injEq, Prod.mk.injEq] at ha
        obtain ⟨rfl, rfl⟩ := ha
        exact (hb _ _ rfl).le (by omega)
    · cases h
  | o0 :: o1 :: p, row, new, row', base, b, o, hs, hb, h, ha => by
    simp only [setG] at h
    simp only [addrG] at ha
    split at h
    · rename_i sz m cap a cells hg
      simp only [hg] at ha
      simp only [Option.map_eq_some_iff] at h
      obtain ⟨c, hc, _⟩ := h
      have hsat := hs.get hg
      simp only [Sat] at hsat
      obtain ⟨s1, s2, s3, s4, s5, s6, s7⟩ := hsat
      refine addrG_blk s7 (fun b o hb => ?_) hc ha
      have := (s5 b o hb).1 trivial
      refine this.le ?_
      rw [s1]
      exact Nat.add_le_add_left (Nat.mul_le_mul_right _ s2) _
    · cases h

theorem setG_vals_deep {q0 q1 : Nat} {q : List Nat} {row new row' : List GV} (h : setG (q0 :: q1 :: q) row new = some row') : row'.map GV.val = row.map GV.val := by
  have hg : getG [0] row row.length = some row := by simp [getG]
  obtain ⟨gs', h1, h2⟩ := setG_getG_short h (by simp) hg
  have hl := setG_length h
  have hg' : getG [0] row' row.length = some row' := by simp [getG, ← hl]
  rw [hg'] at h1
  cases h1
  exact h2

section
variable {Z : Nat → Nat → Prop} {w0 : World} {E0 : List Ext} {pins : List Pin} {gr : List GR} {a : Act} {w : World} {st : St}

theorem root_uniq {gr : List GR} (hk : (gr.map GR.key).Nodup) {R S : GR} (hR : R ∈ gr) (hS : S ∈ gr) (he : R.key = S.key) : R = S := by
  induction gr with
  | nil => cases hR
  | cons T gr ih =>
    simp only [List.map_cons, List.nodup_cons, List.mem_map, not_exists, not_and] at hk
    rcases List.mem_cons.1 hR with e1 | e1 <;> rcases List.mem_cons.1 hS with e2 | e2
    · rw [e1, e2]
    · rw [e1] at he; exact absurd he.symm (hk.1 S e2)
    · rw [e2] at he; exact absurd he (hk.1 R e1)
    · exact ih hk.2 e1 e2

/-- The set of a source's cells at a place in a root. -/
theorem Rel.gset (h : Rel Z w0 E0 pins gr a w st) {s : Src} {gs : List GV} {gr0 : List GR} (sp : SrcSpec Z w st gr s gs gr0) {R : GR} (hR : R ∈ gr0) {p : List Nat} {row' : List GV}
    (hset : setG p R.row gs = some row') {w' : World} {X : Nat → Nat → Prop} (hE : Evo w w' X) (hX : ∀ b o, X b o → inE R.exts b o)
    (hsat : ∀ O', (∀ b o, O' b o → b < w.heap.size → OW Z gr b o) → SatL w' O' row') (hmem : Mem w' R.loc row')
    (hpin : ∀ q, q ∈ pins → q.key = R.key → R.loc = none → row'.map GV.val = R.row.map GV.val) {st' : St} (hst : (st.srcDrop s).setAt R.key p (absL gs) = some st') :
    Rel Z w0 E0 pins (rput gr0 R.key row') a w' st' := by
  have hRg := sp.mem R hR
  have hsatR := h.sat R hRg
  obtain ⟨old, hold⟩ := getG_of_setG hset
  obtain ⟨A, B, e1, e2⟩ := setG_exts hold hset
  obtain ⟨D, hD⟩ := sp.ok.perm
  have hk0 := sp.ok.keys
  have hbase : ({ R with row := row' } : GR).base = R.base := base_len (setG_length hset)
  have hap := h.apart
  have hp1 := gdel_perm_of hk0 hR
  have hp2 := rput_perm hk0 hR row'
  have hperm : (extsR gr ++ []).Perm (extsR (rput gr0 R.key row') ++ (extsL old ++ D)) := by
    rw [List.append_nil]
    refine hD.trans ?_
    refine ((hp1.append_right _).append_right _).trans ?_
    refine List.Perm.trans ?_ (hp2.symm.append_right _)
    simp only [GR.exts, e1, e2, hbase]
    generalize R.base = C
    generalize extsL gs = G
    generalize extsL old = H
    generalize extsR (gdel gr0 R.key) = Z
    -- C A H B Z G D ~ C A G B Z H D
    simp only [List.append_assoc]
    refine List.Perm.append_left C (List.Perm.append_left A ?_)
    have q1 : (H ++ (B ++ (Z ++ (G ++ D)))).Perm (G ++ (H ++ (B ++ (Z ++ D)))) := by
      have : (H ++ (B ++ Z) ++ G).Perm (G ++ (H ++ (B ++ Z))) := List.perm_append_comm
      have := this.append_right D
      simpa only [List.append_assoc] using this
    refine q1.trans (List.Perm.append_left G ?_)
    have : (H ++ (B ++ Z)).Perm ((B ++ Z) ++ H) := List.perm_append_comm
    have := this.append_right D
    simpa only [List.append_assoc] using this
  -- the target on the values' side
  have hroots : (st.srcDrop s).roots = gr0.map GR.root := sp.roots
  unfold St.setAt at hst
  split at hst
  · rename_i S hS
    split at hst
    · rename_i row hrow
      cases hst
      obtain ⟨hS1, hS2⟩ := rlk_mem hS
      rw [hroots] at hS1
      obtain ⟨R2, hR2, rfl⟩ := List.mem_map.1 hS1
      obtain rfl := root_uniq hk0 hR2 hR hS2
      have hab := setP_absL p R2.row gs hsatR
      rw [hset] at hab
      have hrow' : setP p (absL R2.row) (absL gs) = some row := hrow
      rw [hrow'] at hab
      cases hab
      have hapart : ∀ S, S ∈ gr0 → S.key ≠ R2.key → ∀ b o, inE S.exts b o → inE R2.exts b o → False := by
        intro S hS hne b o q1 q2
        have hap0 : Apart (extsR gr0) := (Apart.append.1 (Apart.append.1 (hap.perm hD)).1).1
        have := (Apart.append.1 (hap0.perm hp1)).2.2 b o q2
        exact this (inE_extsR.2 ⟨S, mem_gdel.2 ⟨hS, hne⟩, q1⟩)
      have := (h.update (gr' := rput gr0 R2.key row') (F := []) (D := extsL old ++ D) (X := X) (w' := w') hE (fun b o hx => inE_extsR.2 ⟨R2, hRg, hX b o hx⟩)
        (fun b o h => absurd h not_inE_nil) List.Pairwise.nil hperm (by rw [rput_keys]; exact hk0) ?_ ?_ (env' := keepE (TV.safe R2.key p (absL gs).length) (st.srcDrop s).env) ?_).1
      · rw [hroots, setR_root, sp.pk, sp.nt]
        exact this
      · have hO' : ∀ b o, OW Z (rput gr0 R2.key row') b o → b < w.heap.size → OW Z gr b o := by
          intro b o he _
          refine he.imp (fun he => ?_) id
          have : inE (extsR gr ++ []) b o := (inE_perm hperm).2 (inE_append.2 (.inl he))
          simpa using this
        intro S hS
        rcases mem_rput hS with ⟨q1, q2⟩ | ⟨S', q1, q2, rfl⟩
        · exact .inl ⟨sp.mem S q1, fun b o he hx => hapart S q1 q2 b o he (hX b o hx)⟩
        · obtain rfl := root_uniq hk0 q1 hR q2
          refine .inr ⟨hsat _ hO', hmem, fun b o hl => ?_⟩
          have := hE.blk _ _ (h.blk S' hRg b o hl)
          simp only [setG_length hset]
          exact this
      · intro q hq S hS hkey
        rcases mem_rput hS with ⟨q1, q2⟩ | ⟨S', q1, q2, rfl⟩
        · exact h.pin q hq S (sp.mem S q1) hkey
        · obtain rfl := root_uniq hk0 q1 hR q2
          have := h.pin q hq S' hRg hkey
          refine ⟨this.1, fun hl => ?_, by simp only [setG_length hset]; exact this.2.2⟩
          have hl' : S'.loc = none := this.1.trans hl
          show row'.map GV.val = q.vals
          rw [hpin q hq hkey.symm hl']
          exact this.2.1 hl
      · intro e he
        obtain ⟨q1, q2⟩ := mem_keepE.1 he
        obtain ⟨q3, q4⟩ := sp.env e q1
        refine ⟨q3, KeepsTV.trans q4 ?_⟩
        rw [absL_length] at q2
        refine TV.safe_keeps (k := R2.key) (new := gs) (fun S hS hne => rput_other hS hne) ?_ q2
        intro S hS hk
        obtain rfl := root_uniq hk0 hS hR hk
        exact ⟨_, rput_same hR rfl, rfl, rfl, hset⟩
    · cases hst
  · cases hst

/-- The state without the source, as a state of its own. -/
theorem SrcSpec.tv {s : Src} {gs : List GV} {gr0 : List GR} (h : Rel Z w0 E0 pins gr a w st) (sp : SrcSpec Z w st gr s gs gr0) {x : Operand} {r : Key} {p : List Nat} (hx : (st.srcDrop s).opv x = some (.adr r p)) :
    AdrOk gr0 r p (a.eval x) := by
  cases x with
  | tmp t =>
    obtain ⟨q1, q2⟩ := sp.env _ (lk_mem hx)
    exact AdrOk.carry q2 (h.env _ q1).2
  | const v =>
    simp only [St.opv, constTV] at hx
    split at hx <;> cases hx
  | global g => cases hx
  | func f => cases hx

theorem packed_cells {O : Nat → Nat → Prop} {agg : Bool} {gs : List GV} {v : Value} (hv : Packed agg gs v) (hs : SatL w O gs) : v.cells = (gs.map GV.val).toArray := by
  rw [hv.eq]
  cases agg with
  | true => rfl
  | false =>
    obtain ⟨g, rfl, hg⟩ := hv
    have := GV.val_one (SatL_iff.1 hs g (by simp))
    simp only [pack, List.map_cons, List.map_nil]
    cases hgv : g.val <;> simp_all [Value.cells, Value.oneCell']

variable {P : Program} {T : Tab} (hT : TabOk P T)
include hT

theorem evStore_ok (h : Rel Z w0 E0 pins gr a w st) {t : Nat} {x y : Operand} {st' : St} (he : evStore T st t x y = some st') :
    ∃ w' gr', (Instr.storeAt t (a.eval x) (a.eval y)).run P w = .ok () w' ∧ Rel Z w0 E0 pins gr' a w' st' := by
  unfold evStore at he
  split at he
  · rename_i e hte
    split at he
    · rename_i agg st1 s hsrc
      split at he
      · rename_i row r p hrow hx
        cases hlen : Nat.beq row.length e.size with
        | false => rw [hlen] at he; cases he
        | true =>
          rw [hlen] at he
          simp only [cond_true] at he
          rw [Nat.beq_eq] at hlen
          obtain ⟨gr1, h1, _, hsp⟩ := h.gsrc hsrc
          obtain ⟨gs, gr0, rfl, hv, sp, _⟩ := hsp row hrow
          obtain ⟨R, hR, hr, ⟨b, o⟩, hy, hxv⟩ := sp.tv h1 hx
          have hRg := sp.mem R hR
          have hsatR := h1.sat R hRg
          subst hr
          -- the set goes
          have hset : ∃ row', setG p R.row gs = some row' := by
            have he' := he
            unfold St.setAt at he'
            split at he'
            · rename_i S hS
              split at he'
              · rename_i rw1 hrw
                obtain ⟨hS1, hS2⟩ := rlk_mem hS
                rw [sp.roots] at hS1
                obtain ⟨R2, hR2, rfl⟩ := List.mem_map.1 hS1
                obtain rfl := root_uniq sp.ok.keys hR2 hR hS2
                have hab := setP_absL p R2.row gs hsatR
                have hrw' : setP p (absL R2.row) (absL gs) = some rw1 := hrw
                rw [hrw'] at hab
                cases hq : setG p R2.row gs with
                | none => rw [hq] at hab; cases hab
                | some row' => exact ⟨row', rfl⟩
              · cases he'
            · cases he'
          obtain ⟨row', hset⟩ := hset
          have hblk := addrG_blk hsatR (fun b o hb => h1.blk R hRg b o hb) hset hy
          obtain ⟨w', hw1, hw2, hw3⟩ := run_stores P (b := b) (o := o) (m := o + gs.length) (vs := gs.map GV.val) hblk (by simp) (fun v hv => by
            obtain ⟨g, hg, rfl⟩ := List.mem_map.1 hv
            exact GV.val_one (SatL_iff.1 sp.ok.sat g hg))
          simp only [List.length_map] at hw2
          have hin := addrG_inE hsatR (Bs := R.base) (fun b o hb i hi => GR.base_in hb i hi) hset hy
          have hX : ∀ b' o', (b' = b ∧ o ≤ o' ∧ o' < o + gs.length) → inE R.exts b' o' := by
            rintro b' o' ⟨rfl, q1, q2⟩
            have := hin (o' - o) (by omega)
            rwa [Nat.add_sub_cancel' (by omega)] at this
          obtain ⟨D, hD⟩ := sp.ok.perm
          have hapD := h1.apart.perm hD
          have hgsX : ∀ b' o', inE (extsL gs) b' o' → ¬ (b' = b ∧ o ≤ o' ∧ o' < o + gs.length) := by
            intro b' o' q1 q2
            exact (Apart.append.1 (Apart.append.1 hapD).1).2.2 b' o' (inE_extsR.2 ⟨R, hR, hX _ _ q2⟩) q1
          have hXO : ∀ b' o', (b' = b ∧ o ≤ o' ∧ o' < o + gs.length) → inE (extsR gr1) b' o' := fun b' o' q => inE_extsR.2 ⟨R, hRg, hX _ _ q⟩
          have hmemgs : Mem w' (some (b, o)) gs := by
            intro b' o' hb i g hg
            cases hb
            exact hw3 i g.val (by simp [hg])
          have hapR : Apart (R.base ++ extsL R.row) := by
            have := (Apart.append.1 ((Apart.append.1 (Apart.append.1 hapD).1).1.perm (gdel_perm_of sp.ok.keys hR))).1
            exact this
          have hwr : ∀ O', (∀ b o, O' b o → b < w.heap.size → OW Z gr1 b o) → SatL w' O' row' ∧ Mem w' R.loc row' := by
            intro O' hO'
            refine write_row hO' hsatR (h1.mem R hRg) hset hy hw2 hmemgs ?_ (fun b o hb i hi => GR.base_in hb i hi) hapR (fun b o he => .inl (inE_extsR.2 ⟨R, hRg, he⟩))
            exact SatL_evo hw2 (fun b o h => .inl (hXO b o h)) hO' gs sp.ok.sat hgsX
          refine ⟨w', _, ?_, h1.gset sp hR hset hw2 hX (fun O' hO' => (hwr O' hO').1) (hwr (fun _ _ => False) (fun _ _ h => h.elim)).2 ?_ he⟩
          · have hc := packed_cells hv sp.ok.sat
            simp only [Instr.storeAt, hxv, Instr.sureAddr, addrOf, Sem.run_bind, Sem.run_pure, Result.andThen_ok, storeVar, hc, run_size hT w hte]
            rw [absL_length] at hlen
            simp only [List.size_toArray, List.length_map, hlen, ne_eq, not_true_eq_false, if_false]
            exact hw1
          · intro q hq hkey hl
            cases p with
            | nil => cases hset
            | cons p0 p =>
              cases p with
              | nil => simp [addrG, hl] at hy
              | cons p1 p => exact setG_vals_deep hset
      · cases he
    · cases he
  · cases he
end

end Go.Proofs.YtddfcajdelfikaaDoor.Vm
