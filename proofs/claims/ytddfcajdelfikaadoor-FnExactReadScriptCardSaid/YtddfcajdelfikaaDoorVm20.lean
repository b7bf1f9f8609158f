/- Calls: arguments are handed over. -/
import Derived.Test.YtddfcajdelfikaaDoorVm19
set_option linter.unusedVariables false
set_option linter.unusedSimpArgs false
set_option linter.unusedSectionVars false
namespace Go.Proofs.YtddfcajdelfikaaDoor.Vm
open Go
open GV (absL extsL fzL)
open PV (frzL)

theorem addr_blk {w : World} {O : Nat → Nat → Prop} : ∀ {p : List Nat} {row new row' : List GV} {base : Option (Nat × Nat)} {b o : Nat}, SatL w O row → (∀ b o, base = some (b, o) → Blk w b (o + row.length)) →
    setG p row new = some row' → addrG p base row = some (b, o) → Blk w b (o + new.length)
  | [], _, _, _, _, _, _, _, _, h, _ => by cases h
  | [o0], row, new, row', base, b, o, hs, hB, h, ha => by
    simp only [setG] at h
    simp only [addrG] at ha
    split at h
    · cases base with
      | none => cases ha
      | some x =>
        simp only [Option.map_some, Option.some.injEq, Prod.mk.injEq] at ha
        obtain ⟨rfl, rfl⟩ := ha
        exact (hB _ _ rfl).le (by omega)
    · cases h
  | o0 :: o1 :: p, row, new, row', base, b, o, hs, hB, h, ha => by
    simp only [setG] at h
    simp only [addrG] at ha
    split at h
    · rename_i sz m cap x cells hg
      simp only [hg] at ha
      simp only [Option.map_eq_some_iff] at h
      obtain ⟨c, hc, rfl⟩ := h
      have hsat := hs.get hg
      simp only [Sat] at hsat
      obtain ⟨s1, s2, s3, s4, s5, s6, s7⟩ := hsat
      refine addr_blk s7 (fun b o hb => ((s5 b o hb).1 trivial).le ?_) hc ha
      rw [s1]
      exact Nat.add_le_add_left (Nat.mul_le_mul_right _ s2) _
    · cases h

theorem getG_inE : ∀ {p : List Nat} {row gs : List GV} {n : Nat}, getG p row n = some gs → ∀ b o, inE (extsL gs) b o → inE (extsL row) b o
  | [], _, _, _, h, _, _, _ => by cases h
  | [o0], row, gs, n, h, b, o, he => by
    simp only [getG] at h
    split at h
    · cases h
      obtain ⟨g, hg, he⟩ := inE_extsL.1 he
      exact inE_extsL.2 ⟨g, List.mem_of_mem_drop (List.mem_of_mem_take hg), he⟩
    · cases h
  | o0 :: o1 :: p, row, gs, n, h, b, o, he => by
    simp only [getG] at h
    split at h
    · rename_i hg
      have := getG_inE h b o he
      exact inE_extsL.2 ⟨_, List.mem_of_getElem? hg, by simp only [GV.exts]; exact inE_append.2 (.inr this)⟩
    · cases h

theorem addr_apart : ∀ {p : List Nat} {row gs new row' : List GV} {n : Nat} {base : Option (Nat × Nat)} {Bs : List Ext} {b o : Nat}, getG p row n = some gs → setG p row new = some row' → new.length = n → addrG p base row = some (b, o) →
    (∀ b o, base = some (b, o) → ∀ i, i < row.length → inE Bs b (o + i)) → Apart (Bs ++ extsL row) → ∀ j, j < n → ¬ inE (extsL gs) b (o + j)
  | [], _, _, _, _, _, _, _, _, _, h, _, _, _, _, _, _, _ => by cases h
  | [o0], row, gs, new, row', n, base, Bs, b, o, h, hset, hn, ha, hB, hap, j, hj => by
    intro he
    have hrow := getG_inE h _ _ he
    simp only [getG] at h
    split at h
    · rename_i hl
      simp only [addrG] at ha
      cases base with
      | none => cases ha
      | some x =>
        simp only [Option.map_some, Option.some.injEq, Prod.mk.injEq] at ha
        obtain ⟨rfl, rfl⟩ := ha
        have := hB _ _ rfl (o0 + j) (by omega)
        rw [← Nat.add_assoc] at this
        exact (Apart.append.1 hap).2.2 _ _ this hrow
    · cases h
  | o0 :: o1 :: p, row, gs, new, row', n, base, Bs, b, o, h, hset, hn, ha, hB, hap, j, hj => by
    simp only [getG] at h
    simp only [setG] at hset
    simp only [addrG] at ha
    split at hset
    · rename_i sz m cap x cells hg
      simp only [hg] at ha h
      simp only [Option.map_eq_some_iff] at hset
      obtain ⟨c, hc, rfl⟩ := hset
      refine addr_apart (Bs := ownExt true x) h hc hn ha (fun b o hb i hi => by subst hb; exact inE_one.2 rfl) ?_ j hj
      obtain ⟨A, B, e1, _⟩ := extsL_set hg (.sl true sz m cap x c)
      rw [e1] at hap
      have h1 := (Apart.append.1 hap).2.1
      have h2 := (Apart.append.1 (Apart.append.1 h1).1).2.1
      simpa only [GV.exts] using h2
    · cases hset

/-- What an argument is, on the ghost's side. -/
def ArgCase (w : World) (gr : List GR) (v : Value) (r : PassR) (E : List Ext) : Prop :=
  match r.use, r.lend with
  | none, none => E = [] ∧ (match r.x with | .ino .. => False | .ref .. => False | _ => True)
  | some k, none => (∃ agg row, r.x = .own agg row) ∧ ∃ R, R ∈ gr ∧ R.key = k ∧ E = R.exts
  | none, some (k, p, n, isRef) => ∃ R, R ∈ gr ∧ R.key = k ∧ ∃ gs row', getG p R.row n = some gs ∧ setG p R.row gs = some row' ∧
      (match isRef with
        | false => ∃ agg, r.x = .ino agg (absL gs) ∧ Packed agg gs v ∧ E = extsL gs
        | true => ∃ b o, r.x = .ref (absL gs) ∧ addrG p R.loc R.row = some (b, o) ∧ v = .pointer (some (addrOf (b, o))) ∧ E = [.reg b o gs.length] ++ extsL gs)
  | some _, some _ => False

section
variable {P : Program} {T : Tab} {Z : Nat → Nat → Prop} {w0 : World} {E0 : List Ext} {pins : List Pin} {gr : List GR} {a : Act} {w : World} {st : St}

theorem frz_part (h : Rel Z w0 E0 pins gr a w st) {R : GR} (hR : R ∈ gr) {gs : List GV} (hs : SatL w (OW Z gr) gs) (hin : ∀ b o, inE (extsL gs) b o → inE R.exts b o) {O2 : Nat → Nat → Prop} (ho : ∀ b o, O2 b o → b < w.heap.size → OW Z gr b o)
    (hf : ∀ b o, inE R.exts b o → ¬ O2 b o) : SatL w O2 (GV.frzL gs) :=
  SatL_frz (fun _ _ h => h) gs (hs.less ho) fun b o he => hf b o (hin b o he)

theorem vals_frz (gs : List GV) : (GV.frzL gs).map GV.val = gs.map GV.val := by
  rw [gfrzL_eq, List.map_map]
  apply List.map_congr_left
  intro g _
  exact GV.val_frz g

theorem capRow_ok (h : Rel Z w0 E0 pins gr a w st) {c : Cap} {v : Value} (hv : CapOk Z w gr v c) {row : List PV} {ks : List Key} (hc : capRow st c = some (row, ks)) :
    ∀ O2, (∀ b o, O2 b o → b < w.heap.size → OW Z gr b o) → (∀ k, k ∈ ks → ∀ R, R ∈ gr → R.key = k → ∀ b o, inE R.exts b o → ¬ O2 b o) → FadrOk w O2 row v := by
  intro O2 ho hf
  unfold capRow at hc
  split at hc
  · cases hc
    exact FadrOk.carry (Evo.refl w (fun _ _ => False)) (fun _ _ h => h.elim) ho hv
  · rename_i r o
    split at hc
    · rename_i S hS
      cases hvv : S.virt with
      | true => rw [hvv] at hc; cases hc
      | false =>
        rw [hvv] at hc
        simp only [cond_false, Option.some.injEq, Prod.mk.injEq] at hc
        obtain ⟨rfl, rfl⟩ := hc
        obtain ⟨R, hR, hr, x, hx, hvx⟩ := hv
        obtain ⟨R2, hR2, hr2, rfl⟩ := h.root hS
        obtain rfl := h.uniq hR2 hR (hr2.trans hr.symm)
        simp only [addrG, Option.map_eq_some_iff] at hx
        obtain ⟨y, hy, rfl⟩ := hx
        obtain ⟨b, ob⟩ := y
        have hfz := hf r (by simp) R2 hR hr
        refine ⟨GV.frzL (R2.row.drop o), b, ob + o, ?_, GV.fzL_frz _, ?_, Mem_frz ?_, ?_, by rw [hvx]⟩
        · have hsd : SatL w (OW Z gr) (R2.row.drop o) := SatL_iff.2 fun g hg => SatL_iff.1 (h.sat R2 hR) g (List.mem_of_mem_drop hg)
          rw [GV.absL_frz _ hsd, absL_drop, frzL_eq, frzL_eq, List.map_drop]
          rfl
        · refine frz_part h hR (SatL_iff.2 fun g hg => SatL_iff.1 (h.sat R2 hR) g (List.mem_of_mem_drop hg)) (fun b o he => ?_) ho hfz
          obtain ⟨g, hg, he⟩ := inE_extsL.1 he
          exact GR.inE_exts.2 (.inr (inE_extsL.2 ⟨g, List.mem_of_mem_drop hg, he⟩))
        · intro b' o' hb i g hg
          cases hb
          rw [List.getElem?_drop] at hg
          have := h.mem R2 hR b ob hy _ g hg
          rwa [← Nat.add_assoc] at this
        · intro i hi
          rw [gfrzL_length, List.length_drop] at hi
          rw [Nat.add_assoc]
          exact hfz _ _ (GR.inE_exts.2 (.inl (GR.base_in hy _ (by omega))))
    · cases hc
  · cases hc

theorem capRows_ok (h : Rel Z w0 E0 pins gr a w st) : ∀ {cs : List Cap} {vs : List Value}, CapsOk Z w gr vs cs → ∀ {rows : List (List PV)} {ks : List Key}, capRows st cs = some (rows, ks) →
    ∀ O2, (∀ b o, O2 b o → b < w.heap.size → OW Z gr b o) → (∀ k, k ∈ ks → ∀ R, R ∈ gr → R.key = k → ∀ b o, inE R.exts b o → ¬ O2 b o) → CapsFz w O2 vs rows
  | [], [], _, rows, ks, hc, _, _, _ => by simp only [capRows] at hc; cases hc; trivial
  | c :: cs, v :: vs, hv, rows, ks, hc, O2, ho, hf => by
    simp only [capRows] at hc
    split at hc
    · rename_i r k rs ks' h1 h2
      cases hc
      exact ⟨capRow_ok h hv.1 h1 O2 ho (fun k hk => hf k (List.mem_append.2 (.inl hk))), capRows_ok h hv.2 h2 O2 ho (fun k hk => hf k (List.mem_append.2 (.inr hk)))⟩
    · cases hc
  | [], _ :: _, hv, _, _, _, _, _, _ => hv.elim
  | _ :: _, [], hv, _, _, _, _, _, _ => hv.elim

variable (hT : TabOk P T)
include hT

theorem passVal_ok (h : Rel Z w0 E0 pins gr a w st) {op : Operand} {ty : Nat} {r : PassR} (hp : passVal T st op ty = some r) :
    ArgCase w gr (a.eval op) r [] ∧ ∀ O2, (∀ b o, O2 b o → b < w.heap.size → OW Z gr b o) → (∀ k, k ∈ r.frz → ∀ R, R ∈ gr → R.key = k → ∀ b o, inE R.exts b o → ¬ O2 b o) → ArgOk w O2 (a.eval op) r.x [] := by
  unfold passVal at hp
  split at hp
  · rename_i agg row hx
    cases hp
    obtain ⟨gs, q1, q2, q3, q4⟩ := h.opg hx rfl
    exact ⟨⟨rfl, trivial⟩, fun O2 ho hf => ⟨rfl, gs, q1, q2, q3.less ho, q4⟩⟩
  · rename_i hx
    split at hp
    · rename_i e he
      cases hp
      have hv : a.eval op = .slice none 0 0 := h.opg hx rfl
      refine ⟨⟨rfl, trivial⟩, fun O2 ho hf => ⟨rfl, [.sl false e.size 0 0 none []], rfl, by simp [GV.fzL, GV.fz], ?_, _, rfl, by rw [hv]; rfl⟩⟩
      simp [SatL, Sat, Mem, GV.fzL]
    · cases hp
  · rename_i agg r0 p n hx
    split at hp
    · rename_i S hS
      split at hp
      · rename_i c hc
        cases hp
        obtain ⟨R, hR, hr, gs, hg, hpk⟩ := h.opg hx rfl
        obtain ⟨R2, hR2, hr2, rfl⟩ := h.root hS
        obtain rfl := h.uniq hR2 hR (hr2.trans hr.symm)
        have hsg := getG_sat (h.sat R2 hR) hg
        have hab := getP_absL p R2.row n (h.sat R2 hR)
        rw [hg] at hab
        have hc' : getP p (absL R2.row) n = some c := hc
        rw [hab] at hc'
        cases hc'
        refine ⟨⟨rfl, trivial⟩, fun O2 ho hf => ⟨rfl, GV.frzL gs, GV.absL_frz gs hsg, GV.fzL_frz gs, frz_part h hR hsg (fun b o he => GR.inE_exts.2 (.inr (getG_inE hg b o he))) ho (hf r0 (by simp) R2 hR hr), ?_⟩⟩
        exact hpk.of_vals (vals_frz gs)
      · cases hp
    · cases hp
  · rename_i r0 p lo n hx
    split at hp
    · rename_i S hS
      split at hp
      · rename_i sz m cells hc
        cases hp
        obtain ⟨R, hR, hr, sz', m', cap, x, gc, A, c, hg, q1, q2, q3, q4, q5, q6⟩ := h.opg hx rfl
        obtain ⟨R2, hR2, hr2, rfl⟩ := h.root hS
        obtain rfl := h.uniq hR2 hR (hr2.trans hr.symm)
        have hsg := getG_sat (h.sat R2 hR) hg
        have hab := getP_absL p R2.row 1 (h.sat R2 hR)
        rw [hg] at hab
        have hc' : getP p (absL R2.row) 1 = some [.sl true sz m cells] := hc
        rw [hab] at hc'
        simp only [Option.map_some, GV.absL, GV.abs, Option.some.injEq, List.cons.injEq, PV.sl.injEq, and_true, true_and] at hc'
        obtain ⟨rfl, rfl, rfl⟩ := hc'
        simp only [SatL, and_true] at hsg
        have hsg0 := hsg
        simp only [Sat] at hsg
        obtain ⟨s1, s2, s3, s4, s5, s6, s7⟩ := hsg
        have hsub : SatL w (OW Z gr) ((gc.drop (lo * sz')).take (n * sz')) := SatL_iff.2 fun g hg => SatL_iff.1 s7 g (List.mem_of_mem_drop (List.mem_of_mem_take hg))
        have hlen : ((gc.drop (lo * sz')).take (n * sz')).length = n * sz' := by
          simp only [List.length_take, List.length_drop, s1]
          have : lo * sz' + n * sz' ≤ m' * sz' := by rw [← Nat.add_mul]; exact Nat.mul_le_mul_right _ q1
          omega
        have hinR : ∀ b o, inE (GV.exts (.sl true sz' m' cap x gc)) b o → inE R2.exts b o := fun b o he => GR.inE_exts.2 (.inr (getG_inE hg b o (inE_extsL.2 ⟨_, List.mem_singleton.2 rfl, he⟩)))
        refine ⟨⟨rfl, trivial⟩, fun O2 ho hf => ⟨rfl, [.sl false sz' n c A (GV.frzL ((gc.drop (lo * sz')).take (n * sz')))], ?_, ?_, ?_, _, rfl, by rw [q3]; rfl⟩⟩
        · simp only [GV.absL, GV.abs, GV.absL_frz _ hsub, absL_take, absL_drop, sub]
        · simp only [GV.fzL, GV.fz, and_true]; exact ⟨trivial, GV.fzL_frz _⟩
        · have hfR := hf r0 (by simp) R2 hR hr
          simp only [SatL, Sat, and_true]
          refine ⟨by rw [gfrzL_length]; exact hlen, q2, q4, ?_, ?_, fun _ => GV.fzL_frz _, frz_part h hR hsub (fun b o he => hinR b o ?_) ho hfR⟩
          · intro b o hb i g hg'
            by_cases hn : 0 < n
            · obtain ⟨b1, o1, e1, e2⟩ := q5 hn
              rw [e2] at hb
              have hb' := Prod.mk.inj (Option.some.inj hb)
              have hb1 := hb'.1
              have hb2 := hb'.2
              subst hb1 hb2
              have hm : Mem w (some (b1, o1 + lo * sz')) ((gc.drop (lo * sz')).take (n * sz')) := by
                intro b2 o2 hb2 i2 g2 hg2
                cases hb2
                rw [List.getElem?_take] at hg2
                split at hg2
                · rw [List.getElem?_drop] at hg2
                  have := s4 b1 o1 e1 _ g2 hg2
                  rwa [← Nat.add_assoc] at this
                · cases hg2
              exact Mem_frz hm _ _ rfl i g hg'
            · have : n = 0 := by omega
              subst this
              simp [GV.frzL] at hg'
          · intro b o hb
            refine ⟨fun h => absurd h (by decide), fun _ i hi => ?_⟩
            rw [gfrzL_length, hlen] at hi
            by_cases hn : 0 < n
            · obtain ⟨b1, o1, e1, e2⟩ := q5 hn
              rw [e2] at hb
              have hb' := Prod.mk.inj (Option.some.inj hb)
              have hb1 := hb'.1
              have hb2 := hb'.2
              subst hb1 hb2
              exact hfR _ _ (hinR _ _ (by rw [e1]; simp only [GV.exts, ownExt]; exact inE_append.2 (.inl (inE_one.2 rfl))))
            · have : n = 0 := by omega
              subst this
              simp at hi
          · obtain ⟨g, hg', he⟩ := inE_extsL.1 he
            simp only [GV.exts]
            exact inE_append.2 (.inr (inE_extsL.2 ⟨g, List.mem_of_mem_drop (List.mem_of_mem_take hg'), he⟩))
      · cases hp
    · cases hp
  · cases hp

theorem passOwn_ok (h : Rel Z w0 E0 pins gr a w st) {op : Operand} {ty : Nat} {r : PassR} (hp : passOwn T st op ty = some r) :
    ∃ E, ArgCase w gr (a.eval op) r E ∧ ∀ O2, (∀ b o, O2 b o → b < w.heap.size → OW Z gr b o) → (∀ k, k ∈ r.frz → ∀ R, R ∈ gr → R.key = k → ∀ b o, inE R.exts b o → ¬ O2 b o) → ArgOk w O2 (a.eval op) r.x E := by
  unfold passOwn at hp
  split at hp
  · rename_i agg row hx
    cases hp
    obtain ⟨gs, q1, q2, q3, q4⟩ := h.opg hx rfl
    exact ⟨[], ⟨rfl, trivial⟩, fun O2 ho hf => ⟨gs, q1, q3.less ho, q4, (GV.extsL_fz q2).symm⟩⟩
  · rename_i hx
    split at hp
    · rename_i e he
      cases hp
      have hv : a.eval op = .slice none 0 0 := h.opg hx rfl
      refine ⟨[], ⟨rfl, trivial⟩, fun O2 ho hf => ⟨[.sl true e.size 0 0 none []], rfl, ?_, ⟨_, rfl, by rw [hv]; rfl⟩, by simp [GV.extsL, GV.exts, ownExt]⟩⟩
      simp [SatL, Sat, Mem, GV.fzL]
    · cases hp
  · rename_i agg r0 p n hx
    split at hp
    · rename_i S hS
      cases hw : (isWhole S p n && !hasKey st.pk r0) with
      | false => rw [hw] at hp; cases hp
      | true =>
        rw [hw] at hp
        cases hp
        simp only [Bool.and_eq_true] at hw
        obtain ⟨R, hR, hr, gs, hg, hpk⟩ := h.opg hx rfl
        obtain ⟨R2, hR2, hr2, rfl⟩ := h.root hS
        obtain rfl := h.uniq hR2 hR (hr2.trans hr.symm)
        have hww := hw.1
        unfold isWhole at hww
        split at hww
        · simp only [Bool.and_eq_true, Nat.beq_eq] at hww
          have hn : n = R2.row.length := by rw [hww.2]; simp [GR.root]
          have hl : R2.loc = none := by simpa [GR.root] using hww.1
          simp only [getG, Nat.zero_add, List.drop_zero] at hg
          rw [if_pos (by omega), hn, List.take_length] at hg
          cases hg
          refine ⟨R2.exts, ⟨⟨_, _, rfl⟩, R2, hR, hr, rfl⟩, fun O2 ho hf => ⟨R2.row, rfl, (h.sat R2 hR).less ho, hpk, by simp [GR.exts, GR.base, hl]⟩⟩
        · cases hww
    · cases hp
  · cases hp

theorem lend_get (h : Rel Z w0 E0 pins gr a w st) {R : GR} (hR : R ∈ gr) {p : List Nat} {n : Nat} {row row2 : List PV} (hg : getP p R.root.row n = some row) (hset : setP p R.root.row row = some row2) :
    ∃ gs row', getG p R.row n = some gs ∧ setG p R.row gs = some row' ∧ absL gs = row := by
  have hab := getP_absL p R.row n (h.sat R hR)
  have hg' : getP p (absL R.row) n = some row := hg
  rw [hg'] at hab
  cases hgg : getG p R.row n with
  | none => rw [hgg] at hab; cases hab
  | some gs =>
    rw [hgg] at hab
    cases hab
    have hs := setP_absL p R.row gs (h.sat R hR)
    have hset' : setP p (absL R.row) (absL gs) = some row2 := hset
    rw [hset'] at hs
    cases hsg : setG p R.row gs with
    | none => rw [hsg] at hs; cases hs
    | some row' => exact ⟨gs, row', rfl, hsg, rfl⟩

theorem passOne_ok (h : Rel Z w0 E0 pins gr a w st) {m : Md} {op : Operand} {ty : Nat} {r : PassR} (hp : passOne T st m op ty = some r) :
    ∃ E, ArgCase w gr (a.eval op) r E ∧ ∀ O2, (∀ b o, O2 b o → b < w.heap.size → OW Z gr b o) → (∀ k, k ∈ r.frz → ∀ R, R ∈ gr → R.key = k → ∀ b o, inE R.exts b o → ¬ O2 b o) → ArgOk w O2 (a.eval op) r.x E := by
  unfold passOne at hp
  split at hp
  · exact ⟨[], passVal_ok hT h hp⟩
  · exact passOwn_ok hT h hp
  · split at hp
    · rename_i agg r0 p n hx
      split at hp
      · rename_i S hS
        split at hp
        · rename_i row hg
          split at hp
          · rename_i row2 hset
            cases hp
            obtain ⟨R, hR, hr, gs, hgg, hpk⟩ := h.opg hx rfl
            obtain ⟨R2, hR2, hr2, rfl⟩ := h.root hS
            obtain rfl := h.uniq hR2 hR (hr2.trans hr.symm)
            obtain ⟨gs', row', e1, e2, rfl⟩ := lend_get hT h hR hg hset
            rw [e1] at hgg
            have e3 := Option.some.inj hgg
            subst e3
            refine ⟨extsL gs', ⟨R2, hR, hr, gs', row', e1, e2, agg, rfl, hpk, rfl⟩, fun O2 ho hf => ⟨gs', rfl, (getG_sat (h.sat R2 hR) e1).less ho, hpk, rfl⟩⟩
          · cases hp
        · cases hp
      · cases hp
    · cases hp
  · rename_i n
    split at hp
    · rename_i r0 p hx
      split at hp
      · rename_i S hS
        split at hp
        · rename_i row hg
          split at hp
          · rename_i row2 hset
            cases hp
            obtain ⟨R, hR, hr, x, hxa, hv⟩ := h.opg hx rfl
            obtain ⟨R2, hR2, hr2, rfl⟩ := h.root hS
            obtain rfl := h.uniq hR2 hR (hr2.trans hr.symm)
            obtain ⟨gs', row', e1, e2, rfl⟩ := lend_get hT h hR hg hset
            obtain ⟨b, o⟩ := x
            refine ⟨[.reg b o gs'.length] ++ extsL gs', ⟨R2, hR, hr, gs', row', e1, e2, b, o, rfl, hxa, hv, rfl⟩, fun O2 ho hf => ⟨b, o, gs', hv, rfl, (getG_sat (h.sat R2 hR) e1).less ho, ?_, ?_, rfl⟩⟩
            · exact getG_mem (h.sat R2 hR) (h.mem R2 hR) e1 hxa
            · exact addr_blk (h.sat R2 hR) (fun b o hb => h.blk R2 hR b o hb) e2 hxa
          · cases hp
        · cases hp
      · cases hp
    · cases hp
  · rename_i n
    split at hp
    · rename_i row hx
      cases hp
      have := h.opg hx rfl
      exact ⟨[], ⟨rfl, trivial⟩, fun O2 ho hf => ⟨rfl, FadrOk.carry (Evo.refl w (fun _ _ => False)) (fun _ _ h => h.elim) ho this⟩⟩
    · rename_i r0 p hx
      split at hp
      · rename_i S hS
        split at hp
        · rename_i row hg
          split at hp
          · rename_i row2 hset
            cases hp
            obtain ⟨R, hR, hr, x, hxa, hv⟩ := h.opg hx rfl
            obtain ⟨R2, hR2, hr2, rfl⟩ := h.root hS
            obtain rfl := h.uniq hR2 hR (hr2.trans hr.symm)
            obtain ⟨b, o⟩ := x
            obtain ⟨gs, row', hgg, e2, rfl⟩ := lend_get hT h hR hg hset
            have hsg := getG_sat (h.sat R2 hR) hgg
            refine ⟨[], ⟨rfl, trivial⟩, fun O2 ho hf => ⟨rfl, GV.frzL gs, b, o, GV.absL_frz gs hsg, GV.fzL_frz gs, frz_part h hR hsg (fun b o he => GR.inE_exts.2 (.inr (getG_inE hgg b o he))) ho (hf r0 (by simp) R2 hR hr), Mem_frz (getG_mem (h.sat R2 hR) (h.mem R2 hR) hgg hxa), ?_, hv⟩⟩
            intro i hi
            rw [gfrzL_length] at hi
            exact hf r0 (by simp) R2 hR hr _ _ (addrG_inE (h.sat R2 hR) (fun b o hb i hi => GR.base_in hb i hi) e2 hxa i hi)
          · cases hp
        · cases hp
      · cases hp
    · cases hp
  · split at hp
    · rename_i f caps hx
      split at hp
      · rename_i rows ks hc
        cases hp
        obtain ⟨vs, hv, hcaps⟩ := h.opg hx rfl
        exact ⟨[], ⟨rfl, trivial⟩, fun O2 ho hf => ⟨rfl, vs, hv, capRows_ok h hcaps hc O2 ho hf⟩⟩
      · cases hp
    · cases hp
end

end Go.Proofs.YtddfcajdelfikaaDoor.Vm
