/- A table of types, looked over by one calculation. -/
import Derived.Test.YtddfcajdelfikaaDoorVm15
set_option linter.unusedVariables false
set_option linter.unusedSimpArgs false
set_option linter.unusedSectionVars false
namespace Go.Proofs.YtddfcajdelfikaaDoor.Vm
open Go
open GV (absL extsL fzL)
open PV (frzL)

/-! ### '==' of structs of plain cells -/

/-- The kinds of a type's cells, where they are all plain. -/
def eqFs (f : Nat → Option (List PV)) : Nat → List Field → Option (List PV)
  | _, [] => some []
  | off, x :: xs => if x.name ≠ "_" ∧ x.offset = off then
      (match f x.type with
      | some z => match eqFs f (off + z.length) xs with
        | some zs => some (z ++ zs)
        | none => none
      | none => none) else none

def eqChk (P : Program) : Nat → Nat → Option (List PV)
  | 0, _ => none
  | d + 1, t => match P.underlying t with
    | some (.int _) => some [.int .i64 0]
    | some .bool => some [.bool false]
    | some .string => some [.str []]
    | some (.struct fs) => if P.stoodInHeld t then none else
      (match eqFs (eqChk P d) 0 fs.toList, P.info? t with
      | some z, some i => if i.size = z.length then some z else none
      | _, _ => none)
    | _ => none

def Pkd (P : Program) (t : Nat) (gs : List GV) (v : Value) : Prop :=
  match P.underlying t with
  | some (.struct _) => v = .agg (gs.map GV.val).toArray
  | _ => ∃ g, gs = [g] ∧ v = g.val

theorem sameKinds_length : ∀ {x y : List PV}, sameKinds x y = true → x.length = y.length
  | [], [], _ => rfl
  | .int _ _ :: x, .int _ _ :: y, h => by simp [sameKinds_length (x := x) (y := y) h]
  | .str _ :: x, .str _ :: y, h => by simp [sameKinds_length (x := x) (y := y) h]
  | .bool _ :: x, .bool _ :: y, h => by simp [sameKinds_length (x := x) (y := y) h]
  | [], _ :: _, h => by simp [sameKinds] at h
  | _ :: _, [], h => by simp [sameKinds] at h
  | .int _ _ :: x, .str _ :: y, h => by simp [sameKinds] at h
  | .int _ _ :: x, .bool _ :: y, h => by simp [sameKinds] at h
  | .int _ _ :: x, .sl .. :: y, h => by simp [sameKinds] at h
  | .int _ _ :: x, .dead :: y, h => by simp [sameKinds] at h
  | .str _ :: x, .int _ _ :: y, h => by simp [sameKinds] at h
  | .str _ :: x, .bool _ :: y, h => by simp [sameKinds] at h
  | .str _ :: x, .sl .. :: y, h => by simp [sameKinds] at h
  | .str _ :: x, .dead :: y, h => by simp [sameKinds] at h
  | .bool _ :: x, .int _ _ :: y, h => by simp [sameKinds] at h
  | .bool _ :: x, .str _ :: y, h => by simp [sameKinds] at h
  | .bool _ :: x, .sl .. :: y, h => by simp [sameKinds] at h
  | .bool _ :: x, .dead :: y, h => by simp [sameKinds] at h
  | .sl .. :: x, _ :: y, h => by simp [sameKinds] at h
  | .dead :: x, _ :: y, h => by simp [sameKinds] at h

theorem sameKinds_append : ∀ {a x y : List PV}, sameKinds (a ++ x) y = true → sameKinds a (y.take a.length) = true ∧ sameKinds x (y.drop a.length) = true
  | [], x, y, h => by simpa [sameKinds] using h
  | p :: a, x, [], h => by cases p <;> simp [sameKinds] at h
  | p :: a, x, q :: y, h => by
    cases p <;> cases q <;> simp only [List.cons_append, sameKinds, Bool.false_eq_true] at h <;> simpa [sameKinds] using sameKinds_append h

theorem eqRow_append : ∀ {a b c d : List PV} {r : Bool}, eqRow (a ++ b) (c ++ d) = some r → a.length = c.length → ∃ r1 r2, eqRow a c = some r1 ∧ eqRow b d = some r2 ∧ r = (r1 && r2)
  | [], b, [], d, r, h, _ => ⟨true, r, rfl, h, by simp⟩
  | [], _, _ :: _, _, _, _, h => by simp at h
  | _ :: _, _, [], _, _, _, h => by simp at h
  | p :: a, b, q :: c, d, r, h, hl => by
    have hl' : a.length = c.length := by simpa using hl
    cases p <;> cases q <;> simp only [List.cons_append, eqRow, reduceCtorEq] at h
    · rename_i k x k' y
      split at h
      · rename_i hk
        simp only [Option.map_eq_some_iff] at h
        obtain ⟨r', h1, h2⟩ := h
        obtain ⟨r1, r2, e1, e2, e3⟩ := eqRow_append h1 hl'
        exact ⟨x == y && r1, r2, by simp [eqRow, hk, e1], e2, by rw [← h2, e3, Bool.and_assoc]⟩
      · cases h
    · rename_i x y
      simp only [Option.map_eq_some_iff] at h
      obtain ⟨r', h1, h2⟩ := h
      obtain ⟨r1, r2, e1, e2, e3⟩ := eqRow_append h1 hl'
      exact ⟨x == y && r1, r2, by simp [eqRow, e1], e2, by rw [← h2, e3, Bool.and_assoc]⟩
    · rename_i x y
      simp only [Option.map_eq_some_iff] at h
      obtain ⟨r', h1, h2⟩ := h
      obtain ⟨r1, r2, e1, e2, e3⟩ := eqRow_append h1 hl'
      exact ⟨x == y && r1, r2, by simp [eqRow, e1], e2, by rw [← h2, e3, Bool.and_assoc]⟩

section
variable {P : Program}

theorem eqChk_one {d t : Nat} {z : List PV} (h : eqChk P d t = some z) : (match P.underlying t with | some (.struct _) => P.cellsOf t = z.length | _ => z.length = 1) := by
  cases d with
  | zero => cases h
  | succ d =>
    simp only [eqChk] at h
    split at h
    · rename_i hu; cases h; simp [hu]
    · rename_i hu; cases h; simp [hu]
    · rename_i hu; cases h; simp [hu]
    · rename_i fs hu
      simp only [hu]
      split at h
      · cases h
      · split at h
        · rename_i z' i hz hi
          split at h
          · rename_i hs; cases h; simp [Program.cellsOf, hi, hs]
          · cases h
        · cases h
    · cases h

theorem run_part_eq {d t : Nat} {z : List PV} (h : eqChk P d t = some z) (w : World) {gs : List GV} {off : Nat} (hl : off + z.length ≤ gs.length) :
    ∃ v, (part t (gs.map GV.val).toArray off).run P w = .ok v w ∧ Pkd P t ((gs.drop off).take z.length) v := by
  have h1 := eqChk_one h
  cases d with
  | zero => cases h
  | succ d =>
    simp only [eqChk] at h
    have plain : ∀ (g : GV), (gs.drop off).take 1 = [g] → z.length = 1 → (isAgg t).run P w = .ok false w → (match P.underlying t with | some (.struct _) => False | _ => True) →
        ∃ v, (part t (gs.map GV.val).toArray off).run P w = .ok v w ∧ Pkd P t ((gs.drop off).take z.length) v := by
      intro g hg hz ha hn
      refine ⟨g.val, ?_, ?_⟩
      · have hgo : gs[off]? = some g := by
          have := congrArg (fun l => l[0]?) hg
          simpa [List.getElem?_take, List.getElem?_drop] using this
        simp only [part, Sem.run_bind, ha, Result.andThen_ok, Bool.false_eq_true, if_false, List.getElem?_toArray, List.getElem?_map, hgo, Option.map_some, Sem.run_pure]
      · unfold Pkd
        rw [hz]
        split
        · rename_i hu; rw [hu] at hn; exact hn.elim
        · exact ⟨g, hg, rfl⟩
    have hone : z.length = 1 → ∃ g, (gs.drop off).take 1 = [g] := by
      intro hz
      have hlt : off < gs.length := by omega
      exact ⟨gs[off], by rw [List.drop_eq_getElem_cons hlt]; rfl⟩
    split at h
    · rename_i hu
      cases h
      obtain ⟨g, hg⟩ := hone rfl
      exact plain g hg rfl (by simp [isAgg, run_underlying hu]) (by rw [hu]; trivial)
    · rename_i hu
      cases h
      obtain ⟨g, hg⟩ := hone rfl
      exact plain g hg rfl (by simp [isAgg, run_underlying hu]) (by rw [hu]; trivial)
    · rename_i hu
      cases h
      obtain ⟨g, hg⟩ := hone rfl
      exact plain g hg rfl (by simp [isAgg, run_underlying hu]) (by rw [hu]; trivial)
    · rename_i fs hu
      split at h
      · cases h
      · split at h
        · rename_i z' i hz hi
          split at h
          · rename_i hs
            cases h
            refine ⟨.agg (((gs.drop off).take z.length).map GV.val).toArray, ?_, ?_⟩
            · have ha : (isAgg t).run P w = .ok true w := by simp [isAgg, run_underlying hu]
              have hsz : (sizeOf t).run P w = .ok z.length w := by simp [sizeOf, typeInfo, hi, hs]
              simp only [part, Sem.run_bind, ha, Result.andThen_ok, if_true, hsz, Sem.run_pure]
              congr 2
              apply Array.ext'
              simp [List.map_take, List.map_drop, List.extract_eq_take_drop]
            · simp only [Pkd, hu]
          · cases h
        · cases h
    · cases h

theorem eqChk_ok : ∀ {d t : Nat} {z : List PV}, eqChk P d t = some z → ∀ {D : Nat}, d ≤ D → ∀ {w : World} {O : Nat → Nat → Prop} {gs1 gs2 : List GV} {v1 v2 : Value} {b : Bool}, Pkd P t gs1 v1 → Pkd P t gs2 v2 → SatL w O gs1 → SatL w O gs2 →
    gs2.length = z.length → sameKinds z (absL gs1) = true → eqRow (absL gs1) (absL gs2) = some b → (Op.equalIn D t v1 v2).run P w = .ok b w
  | 0, _, _, h, _, _, _, _, _, _, _, _, _, _, _, _, _, _, _, _ => by cases h
  | d + 1, t, z, h, 0, hD, _, _, _, _, _, _, _, _, _, _, _, _, _, _ => absurd hD (by omega)
  | d + 1, t, z, h, D + 1, hD, w, O, gs1, gs2, v1, v2, b, hp1, hp2, hs1, hs2, hl2, hk, hr => by
    have hl1 : gs1.length = z.length := by have := sameKinds_length hk; rw [absL_length] at this; exact this.symm
    simp only [eqChk] at h
    split at h
    · rename_i k0 hu
      cases h
      simp only [Pkd, hu] at hp1 hp2
      obtain ⟨g1, rfl, rfl⟩ := hp1
      obtain ⟨g2, rfl, rfl⟩ := hp2
      simp only [SatL, and_true] at hs1 hs2
      simp only [GV.absL] at hk hr
      cases e1 : g1.abs <;> rw [e1] at hk hr <;> simp only [sameKinds, Bool.false_eq_true] at hk
      cases e2 : g2.abs <;> rw [e2] at hr <;> simp only [eqRow, reduceCtorEq] at hr
      split at hr
      · rename_i hkk
        subst hkk
        cases hr
        rw [sat_int hs1 e1, sat_int hs2 e2]
        simpa using run_equalIn_int w D t _ k0 _ _ hu
      · cases hr
    · rename_i hu
      cases h
      simp only [Pkd, hu] at hp1 hp2
      obtain ⟨g1, rfl, rfl⟩ := hp1
      obtain ⟨g2, rfl, rfl⟩ := hp2
      simp only [SatL, and_true] at hs1 hs2
      simp only [GV.absL] at hk hr
      cases e1 : g1.abs <;> rw [e1] at hk hr <;> simp only [sameKinds, Bool.false_eq_true] at hk
      cases e2 : g2.abs <;> rw [e2] at hr <;> simp only [eqRow, reduceCtorEq] at hr
      cases hr
      rw [sat_bool hs1 e1, sat_bool hs2 e2]
      simpa using run_equalIn_bool' w D t _ _ hu
    · rename_i hu
      cases h
      simp only [Pkd, hu] at hp1 hp2
      obtain ⟨g1, rfl, rfl⟩ := hp1
      obtain ⟨g2, rfl, rfl⟩ := hp2
      simp only [SatL, and_true] at hs1 hs2
      simp only [GV.absL] at hk hr
      cases e1 : g1.abs <;> rw [e1] at hk hr <;> simp only [sameKinds, Bool.false_eq_true] at hk
      cases e2 : g2.abs <;> rw [e2] at hr <;> simp only [eqRow, reduceCtorEq] at hr
      cases hr
      rename_i x y
      rw [sat_str hs1 e1, sat_str hs2 e2, run_equalIn_string w D t _ _ hu, ByteArray.toList_eq, ByteArray.toList_eq]
      simp
    · rename_i fs hu
      split at h
      · cases h
      · rename_i hst
        split at h
        · rename_i z' i hz hi
          split at h
          · rename_i hs
            cases h
            simp only [Pkd, hu] at hp1 hp2
            subst hp1 hp2
            have hfs : P.fieldsOf t = fs := by simp [Program.fieldsOf, hu]
            rw [run_equalIn_struct w D t _ _ (by rw [hfs]; exact hu) (by simpa using hst), hfs]
            have key : ∀ (l : List Field) (off : Nat) (zz : List PV) (b : Bool), eqFs (eqChk P d) off l = some zz → gs1.length = off + zz.length → gs2.length = off + zz.length → sameKinds zz (absL (gs1.drop off)) = true →
                eqRow (absL (gs1.drop off)) (absL (gs2.drop off)) = some b → (Op.eqFields D (gs1.map GV.val).toArray (gs2.map GV.val).toArray l).run P w = .ok b w := by
              intro l
              induction l with
              | nil =>
                intro off zz b he g1 g2 gk gr
                simp only [eqFs] at he
                cases he
                have e1 : gs1.drop off = [] := List.drop_eq_nil_of_le (by simp at g1; omega)
                have e2 : gs2.drop off = [] := List.drop_eq_nil_of_le (by simp at g2; omega)
                rw [e1, e2] at gr
                simp only [GV.absL, eqRow, Option.some.injEq] at gr
                subst gr
                rfl
              | cons f l ih =>
                intro off zz b he g1 g2 gk gr
                simp only [eqFs] at he
                split at he
                · rename_i hn
                  split at he
                  · rename_i zf hzf
                    split at he
                    · rename_i zs hzs
                      cases he
                      simp only [List.length_append] at g1 g2
                      obtain ⟨k1, k2⟩ := sameKinds_append gk
                      rw [← absL_take] at k1
                      rw [← absL_drop, List.drop_drop] at k2
                      have sp : ∀ (gs : List GV), absL (gs.drop off) = absL ((gs.drop off).take zf.length) ++ absL (gs.drop (off + zf.length)) := by
                        intro gs
                        rw [← absL_append, ← List.drop_drop, List.take_append_drop]
                      rw [sp gs1, sp gs2] at gr
                      have q1 : ((gs1.drop off).take zf.length).length = zf.length := by simp; omega
                      have q2 : ((gs2.drop off).take zf.length).length = zf.length := by simp; omega
                      obtain ⟨r1, r2, a1, a2, a3⟩ := eqRow_append gr (by rw [absL_length, absL_length, q1, q2])
                      obtain ⟨u1, p1, p2⟩ := run_part_eq hzf w (gs := gs1) (off := off) (by omega)
                      obtain ⟨u2, p3, p4⟩ := run_part_eq hzf w (gs := gs2) (off := off) (by omega)
                      have hh := eqChk_ok hzf (D := D) (by omega) p2 p4 (SatL_iff.2 fun g hg => SatL_iff.1 hs1 g (List.mem_of_mem_drop (List.mem_of_mem_take hg)))
                        (SatL_iff.2 fun g hg => SatL_iff.1 hs2 g (List.mem_of_mem_drop (List.mem_of_mem_take hg))) q2 k1 a1
                      simp only [Op.eqFields, Sem.run_ite, Sem.run_bind]
                      rw [if_pos hn.1, hn.2, p1]
                      simp only [Result.andThen_ok, p3, hh]
                      cases r1 with
                      | false => simp only [Bool.not_false, if_true, Sem.run_pure]; rw [a3]; rfl
                      | true =>
                        simp only [Bool.not_true, Bool.false_eq_true, if_false]
                        rw [a3, Bool.true_and]
                        exact ih (off + zf.length) zs r2 hzs (by omega) (by omega) k2 a2
                    · cases he
                  · cases he
                · cases he
            exact key fs.toList 0 z b hz (by omega) (by omega) (by simpa using hk) (by simpa using hr)
          · cases h
        · cases h
    · cases h
  termination_by d => d

end

/-! ### the look -/

def valIs : Value → PV → Bool
  | .int k n, .int k' n' => decide (k = k') && decide (n = n')
  | .bool b, .bool b' => b == b'
  | .string s, .str [] => s.data.size == 0
  | .slice none 0 0, .sl true _ 0 [] => true
  | _, _ => false

def cellsIs : List Value → List PV → Bool
  | [], [] => true
  | v :: vs, p :: ps => valIs v p && cellsIs vs ps
  | _, _ => false

def eqT (P : Program) (t : Nat) (z : List PV) : Bool :=
  !P.eqGuardType P.depth t && (match eqChk P 9 t, P.underlying t with
    | some k, some (.struct _) => sameKinds k z
    | _, _ => false)

def kindIs (P : Program) : TK → Option TypeDesc → Bool
  | .int k, some (.int k') => decide (k = k')
  | .bool, some .bool => true
  | .str, some .string => true
  | .slice el, some (.slice el') => el == el'
  | .struct fs, some (.struct fields) => decide (fields.toList.map (fun f => (f.offset, f.type)) = fs) && fields.toList.all (fun f => (P.info? f.type).isSome)
  | _, _ => false

def infoIs (e : TE) : Option TypeInfo → Bool
  | some i => i.size == e.size && i.bytes == e.bytes && (match i.zero with
    | some z => cellsIs z.cells.toList e.zero && (!e.agg || (match z with | .agg _ => true | _ => false))
    | none => false)
  | none => false

def teChk (P : Program) (t : Nat) (e : TE) : Bool :=
  infoIs e (P.info? t) && e.zero.all PV.isZ && e.zero.length == e.size && (e.agg || e.size == 1) && kindIs P e.kind (P.underlying t) && (!(e.eq && e.agg) || eqT P t e.zero)

def tabChk (P : Program) (T : Tab) : Bool := T.all fun x => teChk P x.1 x.2

theorem valIs_eq {v : Value} {p : PV} (h : valIs v p = true) : v = p.zg.val := by
  unfold valIs at h
  split at h
  · simp only [Bool.and_eq_true, decide_eq_true_eq] at h
    rw [h.1, h.2]; rfl
  · simp only [beq_iff_eq] at h
    rw [h]; rfl
  · rename_i s
    simp only [beq_iff_eq] at h
    simp only [PV.zg, GV.val]
    congr 1
    obtain ⟨d⟩ := s
    have : d = #[] := Array.eq_empty_of_size_eq_zero h
    subst this
    rfl
  · rfl
  · cases h

theorem cellsIs_eq : ∀ {vs : List Value} {ps : List PV}, cellsIs vs ps = true → vs = ps.map fun p => p.zg.val
  | [], [], _ => rfl
  | v :: vs, p :: ps, h => by
    simp only [cellsIs, Bool.and_eq_true] at h
    simp only [List.map_cons, ← valIs_eq h.1, ← cellsIs_eq h.2]
  | [], _ :: _, h => by cases h
  | _ :: _, [], h => by cases h

theorem sameKinds_trans : ∀ {x y z : List PV}, sameKinds x y = true → sameKinds y z = true → sameKinds x z = true
  | [], [], [], _, _ => rfl
  | [], [], _ :: _, _, h => by simp [sameKinds] at h
  | [], _ :: _, _, h, _ => by simp [sameKinds] at h
  | _ :: _, [], _, h, _ => by simp [sameKinds] at h
  | _ :: _, _ :: _, [], _, h => by simp [sameKinds] at h
  | p :: x, q :: y, r :: z, h1, h2 => by
    cases p <;> cases q <;> simp only [sameKinds, Bool.false_eq_true] at h1 <;> cases r <;> simp only [sameKinds, Bool.false_eq_true] at h2 ⊢ <;> exact sameKinds_trans h1 h2

theorem eqSem_of_chk {P : Program} {t : Nat} {z : List PV} (h : eqT P t z = true) : EqSem P t z := by
  unfold eqT at h
  simp only [Bool.and_eq_true, Bool.not_eq_true'] at h
  obtain ⟨h1, h2⟩ := h
  split at h2
  · rename_i k fs hk hu
    have hc := eqChk_one hk
    simp only [hu] at hc
    refine ⟨h1, fun w O gs1 gs2 b s1 s2 l1 l2 hz hr => eqChk_ok hk (D := 10000) (by omega) (by simp only [Pkd, hu]) (by simp only [Pkd, hu]) s1 s2 (by rw [l2, hc]) (sameKinds_trans h2 hz) hr⟩
  · cases h2

theorem mapM_isSome {α β : Type} {f : α → Option β} : ∀ {l : List α}, l.all (fun x => (f x).isSome) = true → ∃ r, l.mapM f = some r
  | [], _ => ⟨[], rfl⟩
  | x :: l, h => by
    simp only [List.all_cons, Bool.and_eq_true] at h
    obtain ⟨y, hy⟩ := Option.isSome_iff_exists.1 h.1
    obtain ⟨r, hr⟩ := mapM_isSome h.2
    exact ⟨y :: r, by simp [hy, hr]⟩

theorem teOk_of_chk {P : Program} {t : Nat} {e : TE} (h : teChk P t e = true) : TEOk P t e := by
  unfold teChk at h
  simp only [Bool.and_eq_true, Bool.or_eq_true, beq_iff_eq, Bool.not_eq_true'] at h
  obtain ⟨⟨⟨⟨⟨h1, h2⟩, h3⟩, h4⟩, h5⟩, h6⟩ := h
  unfold infoIs at h1
  split at h1
  · rename_i i hi
    simp only [Bool.and_eq_true, beq_iff_eq] at h1
    obtain ⟨⟨a1, a2⟩, a3⟩ := h1
    split at a3
    · rename_i z hz
      simp only [Bool.and_eq_true] at a3
      refine ⟨⟨i, z, hi, a1, a2, hz, cellsIs_eq a3.1⟩, h2, h3, fun ha => ?_, fun he ha => ?_, fun i' z' hi' hz' ha => ?_, ?_⟩
      · rcases h4 with h4 | h4
        · rw [ha] at h4; cases h4
        · exact h4
      · rcases h6 with h6 | h6
        · rw [he, ha] at h6; cases h6
        · exact eqSem_of_chk h6
      · rw [hi] at hi'
        cases hi'
        rw [hz] at hz'
        cases hz'
        have a4 := a3.2
        rw [ha] at a4
        cases z <;> first | exact ⟨_, rfl⟩ | (simp at a4)
      · unfold kindIs at h5
        split at h5
        · rename_i k k' hk hu
          simp only [decide_eq_true_eq] at h5
          subst h5
          simp only [hk, hu]
        · rename_i hk hu
          simp only [hk, hu]
        · rename_i hk hu
          simp only [hk, hu]
        · rename_i el el' hk hu
          simp only [beq_iff_eq] at h5
          subst h5
          simp only [hk, hu]
        · rename_i fs fields hk hu
          simp only [Bool.and_eq_true, decide_eq_true_eq] at h5
          simp only [hk]
          obtain ⟨r, hr⟩ := mapM_isSome (f := fun (f : Field) => (P.info? f.type).map fun i => (f.offset, i.size)) (l := fields.toList) (by
            have := h5.2
            rw [List.all_eq_true] at this ⊢
            intro x hx
            simpa using this x hx)
          exact ⟨fields, r, hu, h5.1, hr⟩
        · cases h5
    · cases a3
  · cases h1

theorem Tab.mem_of_get : ∀ {T : Tab} {t : Nat} {e : TE}, T.get t = some e → (t, e) ∈ T
  | [], _, _, h => by cases h
  | (k, e') :: T, t, e, h => by
    simp only [Tab.get] at h
    split at h
    · rename_i hk
      cases h
      subst hk
      exact List.mem_cons_self
    · exact List.mem_cons_of_mem _ (Tab.mem_of_get h)

/-- The table is the program's, by one calculation. -/
theorem tabOk_of_chk {P : Program} {T : Tab} (h : tabChk P T = true) : TabOk P T := by
  intro t e he
  have := List.all_eq_true.1 h _ (Tab.mem_of_get he)
  exact teOk_of_chk this

end Go.Proofs.YtddfcajdelfikaaDoor.Vm
