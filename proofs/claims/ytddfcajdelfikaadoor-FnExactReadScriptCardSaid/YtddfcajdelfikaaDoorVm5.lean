/- Changes of the roots: the ghost's side of operations that move, make or write. -/
import Derived.Test.YtddfcajdelfikaaDoorVm4
set_option linter.unusedVariables false
set_option linter.unusedSimpArgs false
set_option linter.unusedSectionVars false
namespace Go.Proofs.YtddfcajdelfikaaDoor.Vm
open Go
open GV (absL extsL fzL)
open PV (frzL)

theorem keyEq_iff {a b : Key} : keyEq a b = true ↔ a = b := by
  obtain ⟨a1, a2⟩ := a
  obtain ⟨b1, b2⟩ := b
  simp [keyEq]

theorem keyEq_false {a b : Key} : keyEq a b = false ↔ a ≠ b := by
  rw [← Bool.not_eq_true, keyEq_iff]

theorem hasKey_iff : ∀ {l : List Key} {k : Key}, hasKey l k = true ↔ k ∈ l
  | [], _ => by simp [hasKey]
  | k' :: l, k => by
    rw [hasKey, Bool.or_eq_true, keyEq_iff, hasKey_iff (l := l), List.mem_cons]
    constructor
    · rintro (h | h)
      · exact .inl h.symm
      · exact .inr h
    · rintro (h | h)
      · exact .inl h.symm
      · exact .inr h

theorem mem_del : ∀ {env : List (Key × TV)} {t : Nat} {e : Key × TV}, e ∈ del env t ↔ e ∈ env ∧ e.1.1 ≠ t
  | [], _, _ => by simp [del]
  | ((t', c'), tv) :: r, t, e => by
    simp only [del]
    split
    · rename_i h
      rw [mem_del]
      constructor
      · rintro ⟨h1, h2⟩; exact ⟨List.mem_cons_of_mem _ h1, h2⟩
      · rintro ⟨h1, h2⟩
        rcases List.mem_cons.1 h1 with rfl | h1
        · exact absurd h h2
        · exact ⟨h1, h2⟩
    · rename_i h
      rw [List.mem_cons, mem_del, List.mem_cons]
      constructor
      · rintro (rfl | ⟨h1, h2⟩)
        · exact ⟨.inl rfl, h⟩
        · exact ⟨.inr h1, h2⟩
      · rintro ⟨rfl | h1, h2⟩
        · exact .inl rfl
        · exact .inr ⟨h1, h2⟩

theorem mem_keepE {f : TV → Bool} : ∀ {env : List (Key × TV)} {e : Key × TV}, e ∈ keepE f env ↔ e ∈ env ∧ f e.2 = true
  | [], _ => by simp [keepE]
  | e' :: r, e => by
    simp only [keepE]
    cases hf : f e'.2 with
    | true =>
      simp only [cond_true, List.mem_cons, mem_keepE]
      constructor
      · rintro (rfl | ⟨h1, h2⟩)
        · exact ⟨.inl rfl, hf⟩
        · exact ⟨.inr h1, h2⟩
      · rintro ⟨rfl | h1, h2⟩
        · exact .inl rfl
        · exact .inr ⟨h1, h2⟩
    | false =>
      simp only [cond_false, List.mem_cons, mem_keepE]
      constructor
      · rintro ⟨h1, h2⟩; exact ⟨.inr h1, h2⟩
      · rintro ⟨rfl | h1, h2⟩
        · rw [hf] at h2; cases h2
        · exact ⟨h1, h2⟩

theorem mem_delR : ∀ {rs : List Root} {k : Key} {R : Root}, R ∈ delR rs k ↔ R ∈ rs ∧ R.key ≠ k
  | [], _, _ => by simp [delR]
  | S :: rs, k, R => by
    simp only [delR]
    cases hf : keyEq S.key k with
    | true =>
      have := keyEq_iff.1 hf
      simp only [cond_true, List.mem_cons, mem_delR]
      constructor
      · rintro ⟨h1, h2⟩; exact ⟨.inr h1, h2⟩
      · rintro ⟨rfl | h1, h2⟩
        · exact absurd this h2
        · exact ⟨h1, h2⟩
    | false =>
      have := keyEq_false.1 hf
      simp only [cond_false, List.mem_cons, mem_delR]
      constructor
      · rintro (rfl | ⟨h1, h2⟩)
        · exact ⟨.inl rfl, this⟩
        · exact ⟨.inr h1, h2⟩
      · rintro ⟨rfl | h1, h2⟩
        · exact .inl rfl
        · exact .inr ⟨h1, h2⟩

/-- The same on the ghost's side. -/
def gdel (gr : List GR) (k : Key) : List GR := gr.filter fun R => !keyEq R.key k

theorem mem_gdel {gr : List GR} {k : Key} {R : GR} : R ∈ gdel gr k ↔ R ∈ gr ∧ R.key ≠ k := by
  unfold gdel
  rw [List.mem_filter]
  simp [keyEq_false]

theorem delR_root : ∀ {gr : List GR} {k : Key}, delR (gr.map GR.root) k = (gdel gr k).map GR.root
  | [], _ => rfl
  | R :: gr, k => by
    simp only [List.map_cons, delR, gdel, List.filter_cons]
    have : R.root.key = R.key := rfl
    rw [this]
    cases hf : keyEq R.key k with
    | true => simp only [cond_true, Bool.not_true]; exact delR_root
    | false => simp only [cond_false, Bool.not_false, if_true, List.map_cons, List.cons.injEq, true_and]; exact delR_root

theorem gdel_keys {gr : List GR} {k : Key} (h : (gr.map GR.key).Nodup) : ((gdel gr k).map GR.key).Nodup ∧ k ∉ (gdel gr k).map GR.key := by
  constructor
  · exact h.sublist (List.Sublist.map _ List.filter_sublist)
  · intro hk
    obtain ⟨R, hR, e⟩ := List.mem_map.1 hk
    exact (mem_gdel.1 hR).2 e

theorem gdel_perm (gr : List GR) (k : Key) : ∃ D, (extsR gr).Perm (extsR (gdel gr k) ++ D) := by
  induction gr with
  | nil => exact ⟨[], .refl _⟩
  | cons R gr ih =>
    obtain ⟨D, hD⟩ := ih
    simp only [gdel, List.filter_cons]
    split
    · refine ⟨D, ?_⟩
      simp only [extsR, List.append_assoc]
      exact hD.append_left _
    · refine ⟨R.exts ++ D, ?_⟩
      simp only [extsR]
      refine (hD.append_left R.exts).trans ?_
      rw [← List.append_assoc, ← List.append_assoc]
      exact List.perm_append_comm.append_right _

/-- A root with its key out of a list of roots. -/
theorem gdel_perm_of {gr : List GR} {R : GR} (h : (gr.map GR.key).Nodup) (hR : R ∈ gr) : (extsR gr).Perm (R.exts ++ extsR (gdel gr R.key)) := by
  induction gr with
  | nil => cases hR
  | cons S gr ih =>
    simp only [List.map_cons, List.nodup_cons] at h
    rcases List.mem_cons.1 hR with rfl | hR'
    · have : gdel (R :: gr) R.key = gr := by
        unfold gdel
        rw [List.filter_cons, if_neg (by simp [keyEq_iff])]
        rw [List.filter_eq_self]
        intro S hS
        simp only [Bool.not_eq_true']
        refine keyEq_false.2 fun e => h.1 ?_
        exact List.mem_map.2 ⟨S, hS, e⟩
      rw [this]
      exact .refl _
    · have hne : S.key ≠ R.key := fun e => h.1 (List.mem_map.2 ⟨R, hR', e.symm⟩)
      have : gdel (S :: gr) R.key = S :: gdel gr R.key := by
        unfold gdel
        rw [List.filter_cons, if_pos (by simp [keyEq_false.2 hne])]
      rw [this]
      simp only [extsR]
      refine ((ih h.2 hR').append_left S.exts).trans ?_
      rw [← List.append_assoc, ← List.append_assoc]
      exact List.perm_append_comm.append_right _

theorem TV.not_on {gr gr' : List GR} {k : Key} (hs : ∀ R, R ∈ gr → R.key ≠ k → R ∈ gr') : ∀ {tv : TV}, tv.on k = false → KeepsTV gr gr' tv
  | .val .., _ => trivial
  | .nil, _ => trivial
  | .adr r p, h => fun R hR hr => ⟨R, hs R hR (by rw [hr]; exact keyEq_false.1 h), hr, rfl, fun x h => h⟩
  | .view agg r p n, h => fun R hR hr => ⟨R, hs R hR (by rw [hr]; exact keyEq_false.1 h), hr, rfl, fun gs h => ⟨gs, h, rfl⟩⟩
  | .win r p lo n, h => fun R hR hr => ⟨R, hs R hR (by rw [hr]; exact keyEq_false.1 h), hr, rfl, fun sz m cap a cells h => ⟨cells, h⟩⟩
  | .sh r q m, h => fun R hR hr => ⟨R, hs R hR (by rw [hr]; exact keyEq_false.1 h), hr, rfl, fun gs h => ⟨gs, h, rfl⟩⟩
  | .fadr _, _ => trivial
  | .clo f caps, h => fun c hc => by
    cases c with
    | adr r p =>
      simp only [TV.on, List.any_eq_false] at h
      have := h _ hc
      simp only [Bool.not_eq_true] at this
      exact fun R hR hr => ⟨R, hs R hR (by rw [hr]; exact keyEq_false.1 this), hr, rfl, fun x h => h⟩
    | fadr _ => trivial
  | .grd g tv, h => TV.not_on hs (tv := tv) h

section
variable {Z : Nat → Nat → Prop} {w0 : World} {E0 : List Ext} {pins : List Pin} {gr : List GR} {a : Act} {w : World} {st : St}

/-- The general step. F: extents in new blocks; D: extents that are let go. -/
theorem Rel.update (h : Rel Z w0 E0 pins gr a w st) {gr' : List GR} {F D : List Ext} {X : Nat → Nat → Prop} {w' : World} (hE : Evo w w' X) (hX : ∀ b o, X b o → inE (extsR gr) b o)
    (hF : ∀ b o, inE F b o → w.heap.size ≤ b) (hFa : Apart F) (hp : (extsR gr ++ F).Perm (extsR gr' ++ D)) (hk : (gr'.map GR.key).Nodup)
    (hR : ∀ R, R ∈ gr' → (R ∈ gr ∧ ∀ b o, inE R.exts b o → ¬ X b o) ∨
      (SatL w' (OW Z gr') R.row ∧ Mem w' R.loc R.row ∧ ∀ b o, R.loc = some (b, o) → Blk w' b (o + R.row.length)))
    (hpin : ∀ p, p ∈ pins → PinOk gr' p) {env' : List (Key × TV)} (henv : ∀ e, e ∈ env' → e ∈ st.env ∧ KeepsTV gr gr' e.2) :
    Rel Z w0 E0 pins gr' a w' { st with env := env', roots := gr'.map GR.root } ∧ (∀ b o, OW Z gr' b o → b < w.heap.size → OW Z gr b o) := by
  have hap : Apart (extsR gr ++ F) := Apart.append.2 ⟨h.apart, hFa, fun b o h1 h2 => absurd (h.lt b o h1) (by have := hF b o h2; omega)⟩
  have hap' := Apart.append.1 (hap.perm hp)
  have hI' : ∀ b o, inE (extsR gr') b o → b < w.heap.size → inE (extsR gr) b o := by
    intro b o he hb
    have : inE (extsR gr ++ F) b o := (inE_perm hp).2 (inE_append.2 (.inl he))
    rcases inE_append.1 this with h1 | h1
    · exact h1
    · exact absurd (hF b o h1) (by omega)
  have hO' : ∀ b o, OW Z gr' b o → b < w.heap.size → OW Z gr b o := fun b o h hb => h.elim (fun h => .inl (hI' b o h hb)) .inr
  have hXW : ∀ b o, X b o → OW Z gr b o := fun b o h => .inl (hX b o h)
  refine ⟨⟨rfl, hk, hap'.1, ?_, ?_, ?_, ?_, ?_, hpin, h.pk, ?_, h.size, h.defers⟩, hO'⟩
  · intro R hR'
    rcases hR R hR' with ⟨h1, h2⟩ | ⟨h1, _⟩
    · exact SatL_evo hE hXW hO' R.row (h.sat R h1) fun b o he => h2 b o (GR.inE_exts.2 (.inr he))
    · exact h1
  · intro R hR'
    rcases hR R hR' with ⟨h1, h2⟩ | ⟨_, h1, _⟩
    · exact Mem_evo hE (h.mem R h1) fun b o hl i hi => h2 b _ (GR.inE_exts.2 (.inl (GR.base_in hl i hi)))
    · exact h1
  · intro R hR' b o hl
    rcases hR R hR' with ⟨h1, h2⟩ | ⟨_, _, h1⟩
    · exact hE.blk _ _ (h.blk R h1 b o hl)
    · exact h1 b o hl
  · intro b o he hb
    exact h.own b o (hI' b o he (Nat.lt_of_lt_of_le hb h.evo.size)) hb
  · exact h.evo.trans hE (fun b o _ hx => hx) (fun b o hb hx => h.own b o (hX b o hx) hb)
  · intro e he
    obtain ⟨h1, h2⟩ := henv e he
    exact EntOk.carry hE hXW hO' hX hI' h2 (h.env e h1)

theorem PinOk.sub {gr gr' : List GR} {p : Pin} (h : PinOk gr p) (hs : ∀ R, R ∈ gr' → R.key = p.key → R ∈ gr) : PinOk gr' p :=
  fun R hR hk => h R (hs R hR hk) hk

/-- A root goes. -/
theorem Rel.gdrop (h : Rel Z w0 E0 pins gr a w st) (k : Key) : Rel Z w0 E0 pins (gdel gr k) a w (st.drop k) := by
  obtain ⟨D, hD⟩ := gdel_perm gr k
  have := (h.update (gr' := gdel gr k) (F := []) (D := D) (X := fun _ _ => False) (Evo.refl w _) (fun _ _ h => h.elim) (fun b o h => absurd h not_inE_nil) List.Pairwise.nil
    (by simpa using hD) (gdel_keys h.keys).1 (fun R hR => .inl ⟨(mem_gdel.1 hR).1, fun _ _ _ h => h⟩) (fun p hp => (h.pin p hp).sub fun R hR _ => (mem_gdel.1 hR).1)
    (env' := keepE (fun tv => !tv.on k) st.env) (fun e he => by
      obtain ⟨h1, h2⟩ := mem_keepE.1 he
      exact ⟨h1, TV.not_on (fun R hR hne => mem_gdel.2 ⟨hR, hne⟩) (by simpa using h2)⟩)).1
  unfold St.drop
  rw [h.roots, delR_root]
  exact this

theorem Rel.gdrop_tv (h : Rel Z w0 E0 pins gr a w st) {k : Key} {v : Value} {tv : TV} (ht : TVOk Z w gr v tv) (hn : tv.on k = false) : TVOk Z w (gdel gr k) v tv := by
  refine TVOk.carry (Evo.refl w (fun _ _ => False)) (fun _ _ h => h.elim) ?_ (fun _ _ h => h.elim) (fun b o he _ => by
    obtain ⟨D, hD⟩ := gdel_perm gr k
    exact (inE_perm hD).2 (inE_append.2 (.inl he))) (TV.not_on (fun R hR hne => mem_gdel.2 ⟨hR, hne⟩) hn) ht
  intro b o he _
  obtain ⟨D, hD⟩ := gdel_perm gr k
  exact he.imp (fun he => (inE_perm hD).2 (inE_append.2 (.inl he))) id

/-- A value comes to a temporary. -/
theorem Rel.gput (h : Rel Z w0 E0 pins gr a w st) {v : Value} {tv : TV} (ht : TVOk Z w gr v tv) {d : Nat} {st' : St} (hp : st.put d tv = some st') : Rel Z w0 E0 pins gr (a.put (some d) v) w st' := by
  unfold St.put at hp
  split at hp
  · rename_i hd
    cases hp
    have hsz := h.size
    refine { h with env := ?_, size := by simp [Act.put, hsz], defers := h.defers }
    intro e he
    rcases List.mem_cons.1 he with rfl | he
    · refine ⟨by simp [Act.put]; omega, ?_⟩
      have : (a.put (some d) v).tmps.getD d undef = v := by
        simp [Act.put, Array.getElem?_setIfInBounds, show d < a.tmps.size by omega]
      rw [this]
      exact ht
    · obtain ⟨h1, h2⟩ := mem_del.1 he
      have := h.env e h1
      obtain ⟨⟨t, i⟩, tv'⟩ := e
      have hg : (a.put (some d) v).tmps.getD t undef = a.tmps.getD t undef := by
        simp [Act.put, Array.getElem?_setIfInBounds_ne (Ne.symm h2)]
      have hs : (a.put (some d) v).tmps.size = a.tmps.size := by simp [Act.put]
      cases i with
      | zero => exact ⟨by rw [hs]; exact this.1, by rw [hg]; exact this.2⟩
      | succ i => exact ⟨by rw [hs]; exact this.1, by rw [hg]; exact this.2⟩
  · cases hp

/-- A temporary that isn't told of. -/
theorem Rel.gforget (h : Rel Z w0 E0 pins gr a w st) (d : Option Tmp) (v : Value) : Rel Z w0 E0 pins gr (a.put d v) w { st with env := match d with | some d => del st.env d | none => st.env } := by
  cases d with
  | none => exact h
  | some d =>
    refine { h with env := ?_, size := by simp [Act.put, h.size], defers := h.defers }
    intro e he
    obtain ⟨h1, h2⟩ := mem_del.1 he
    have := h.env e h1
    obtain ⟨⟨t, i⟩, tv'⟩ := e
    have hg : (a.put (some d) v).tmps.getD t undef = a.tmps.getD t undef := by
      simp [Act.put, Array.getElem?_setIfInBounds_ne (Ne.symm h2)]
    have hs : (a.put (some d) v).tmps.size = a.tmps.size := by simp [Act.put]
    cases i with
    | zero => exact ⟨by rw [hs]; exact this.1, by rw [hg]; exact this.2⟩
    | succ i => exact ⟨by rw [hs]; exact this.1, by rw [hg]; exact this.2⟩
end

/-! ### sets at a path that change no value of the machine -/

theorem setG_ghost {w : World} {O O' : Nat → Nat → Prop} (hO' : ∀ b o, O' b o → O b o) : ∀ {p : List Nat} {row old new row' : List GV},
    SatL w O row → getG p row new.length = some old → setG p row new = some row' → new.map GV.val = old.map GV.val → SatL w O' new → (∀ g, g ∈ row → Sat w O g → True) →
    SatL w O' row' ∧ row'.map GV.val = row.map GV.val
  | [], _, _, _, _, _, h, _, _, _, _ => by cases h
  | [o], row, old, new, row', hs, hg, h, hv, hn, _ => by
    simp only [getG] at hg
    simp only [setG] at h
    split at h
    · rename_i hl
      rw [if_pos hl] at hg
      cases h
      have hrow : SatL w O' row := by
        refine SatL_iff.2 fun g hgm => ?_
        have := SatL_iff.1 hs g hgm
        exact Sat_evo (Evo.refl w (fun _ _ => False)) (fun _ _ h => h.elim) (fun b o h _ => hO' b o h) g this (fun _ _ _ h => h)
      refine ⟨SatL_append.2 ⟨SatL_append.2 ⟨?_, hn⟩, ?_⟩, ?_⟩
      · exact SatL_iff.2 fun g hg => SatL_iff.1 hrow g (List.mem_of_mem_take hg)
      · exact SatL_iff.2 fun g hg => SatL_iff.1 hrow g (List.mem_of_mem_drop hg)
      · cases hg
        rw [List.map_append, List.map_append, hv, ← List.map_append, ← List.map_append, List.append_assoc]
        congr 1
        have : row.drop (o + new.length) = (row.drop o).drop new.length := by rw [List.drop_drop]
        rw [this, List.take_append_drop, List.take_append_drop]
    · cases h
  | o :: o' :: p, row, old, new, row', hs, hg, h, hv, hn, _ => by
    simp only [getG] at hg
    simp only [setG] at h
    split at h
    · rename_i sz n cap a cells hc
      rw [hc] at hg
      simp only [Option.map_eq_some_iff] at h
      obtain ⟨c, hc', rfl⟩ := h
      have hsat := hs.get hc
      simp only [Sat] at hsat
      obtain ⟨s1, s2, s3, s4, s5, s6, s7⟩ := hsat
      obtain ⟨t1, t2⟩ := setG_ghost hO' s7 hg hc' hv hn (fun _ _ _ => trivial)
      have hval : ∀ (i : Nat) (g : GV), c[i]? = some g → ∃ g' : GV, cells[i]? = some g' ∧ g.val = g'.val := by
        intro i g hg
        have : (c.map GV.val)[i]? = (cells.map GV.val)[i]? := by rw [t2]
        rw [List.getElem?_map, List.getElem?_map, hg] at this
        cases hc2 : cells[i]? with
        | none => rw [hc2] at this; cases this
        | some g' => rw [hc2] at this; simp at this; exact ⟨g', rfl, this⟩
      refine ⟨SatL_iff.2 fun g hgm => ?_, ?_⟩
      · rw [List.mem_iff_getElem?] at hgm
        obtain ⟨i, hi⟩ := hgm
        rw [List.getElem?_set] at hi
        split at hi
        · split at hi
          · cases hi
            simp only [Sat]
            refine ⟨by rw [setG_length hc']; exact s1, s2, s3, ?_, ?_, fun h => absurd h (by decide), t1⟩
            · intro b o hb i g hg
              obtain ⟨g', hg', e⟩ := hval i g hg
              rw [e]
              exact s4 b o hb i g' hg'
            · intro b o hb
              exact ⟨fun _ => (s5 b o hb).1 trivial, fun h => absurd h (by decide)⟩
          · cases hi
        · exact Sat_evo (Evo.refl w (fun _ _ => False)) (fun _ _ h => h.elim) (fun b o h _ => hO' b o h) g (hs.get hi) (fun _ _ _ h => h)
      · apply List.ext_getElem?
        intro i
        rw [List.getElem?_map, List.getElem?_map, List.getElem?_set]
        split
        · rename_i heq
          subst heq
          split
          · rw [hc]; rfl
          · rename_i hlt
            rw [List.getElem?_eq_none (by omega)]
        · rfl
    · cases h

/-! ### what a set leaves of what leads elsewhere -/

theorem setG_getG_short : ∀ {q p : List Nat} {row new row' gs : List GV} {n : Nat}, setG q row new = some row' → p.length < q.length → getG p row n = some gs →
    ∃ gs', getG p row' n = some gs' ∧ gs'.map GV.val = gs.map GV.val
  | [], _, _, _, _, _, _, h, _, _ => by cases h
  | [q0], p, _, _, _, _, _, _, hl, hg => by
    cases p with
    | nil => cases hg
    | cons => simp at hl
  | q0 :: q1 :: q, p, row, new, row', gs, n, h, hl, hg => by
    simp only [setG] at h
    split at h
    · rename_i sz m cap a cells hc
      simp only [Option.map_eq_some_iff] at h
      obtain ⟨c, hc', rfl⟩ := h
      match p, hl, hg with
      | [], _, hg => cases hg
      | [o], _, hg =>
        simp only [getG] at hg ⊢
        split at hg
        · rename_i hle
          cases hg
          rw [if_pos (by simpa using hle)]
          refine ⟨_, rfl, ?_⟩
          rw [List.map_take, List.map_drop, List.map_set, List.map_take, List.map_drop]
          congr 2
          apply List.ext_getElem?
          intro i
          rw [List.getElem?_set]
          split
          · rename_i heq
            subst heq
            split
            · rw [List.getElem?_map, hc]; rfl
            · rename_i hlt
              rw [List.getElem?_eq_none (by omega)]
          · rfl
        · cases hg
      | o :: o' :: p, hl, hg =>
        simp only [getG] at hg ⊢
        rw [List.getElem?_set]
        by_cases heq : q0 = o
        · subst heq
          rw [hc] at hg
          rw [if_pos rfl, if_pos (List.getElem?_eq_some_iff.1 hc).1]
          exact setG_getG_short hc' (by simp at hl ⊢; omega) hg
        · rw [if_neg heq]
          exact ⟨gs, hg, rfl⟩
    · cases h

theorem setG_addrG_short : ∀ {q p : List Nat} {row new row' : List GV} {base x : Option (Nat × Nat)}, setG q row new = some row' → p.length ≤ q.length → addrG p base row = x → addrG p base row' = x
  | [], _, _, _, _, _, _, h, _, _ => by cases h
  | [q0], p, row, new, row', base, x, h, hl, hg => by
    match p, hl with
    | [], _ => exact hg
    | [o], _ => simpa only [addrG] using hg
  | q0 :: q1 :: q, p, row, new, row', base, x, h, hl, hg => by
    simp only [setG] at h
    split at h
    · rename_i sz m cap a cells hc
      simp only [Option.map_eq_some_iff] at h
      obtain ⟨c, hc', rfl⟩ := h
      match p, hl, hg with
      | [], _, hg => exact hg
      | [o], _, hg => simpa only [addrG] using hg
      | o :: o' :: p, hl, hg =>
        simp only [addrG] at hg ⊢
        rw [List.getElem?_set]
        by_cases heq : q0 = o
        · subst heq
          rw [hc] at hg
          rw [if_pos rfl, if_pos (List.getElem?_eq_some_iff.1 hc).1]
          exact setG_addrG_short hc' (by simp at hl ⊢; omega) hg
        · rw [if_neg heq]
          exact hg
    · cases h

theorem set_other {row new row' : List GV} {q0 : Nat} {q : List Nat} (h : setG (q0 :: q) row new = some row') {i : Nat}
    (hi : (i < q0 ∨ q0 + stepLen q new.length ≤ i)) : row'[i]? = row[i]? := by
  cases q with
  | nil =>
    simp only [setG] at h
    split at h
    · cases h
      simp only [stepLen] at hi
      rcases hi with hi | hi
      · rw [List.append_assoc, List.getElem?_append_left (by simp; omega), List.getElem?_take, if_pos hi]
      · have hl : (row.take q0 ++ new).length = q0 + new.length := by simp; omega
        rw [List.getElem?_append_right (by omega), List.getElem?_drop, hl]
        congr 1
        omega
    · cases h
  | cons q1 q =>
    simp only [setG] at h
    split at h
    · simp only [Option.map_eq_some_iff] at h
      obtain ⟨c, _, rfl⟩ := h
      simp only [stepLen] at hi
      rw [List.getElem?_set, if_neg (by omega)]
    · cases h

theorem apart1_spec {q0 p0 : Nat} {q p : List Nat} {n m : Nat} (h : apart1 (q0 :: q) (p0 :: p) n m = true) :
    q0 + stepLen q n ≤ p0 ∨ p0 + stepLen p m ≤ q0 := by
  simp only [apart1, Bool.or_eq_true, Nat.ble_eq] at h
  exact h

theorem setG_getG_apart {q p : List Nat} {row new row' : List GV} {m : Nat} (h : setG q row new = some row') (ha : apart1 q p new.length m = true) : getG p row' m = getG p row m := by
  cases q with
  | nil => cases h
  | cons q0 q =>
    cases p with
    | nil => rfl
    | cons p0 p =>
      have := apart1_spec ha
      cases p with
      | nil =>
        simp only [getG, setG_length h]
        rw [show stepLen [] m = m from rfl] at this
        split
        · congr 1
          apply List.ext_getElem?
          intro i
          rw [List.getElem?_take, List.getElem?_take]
          split
          · rw [List.getElem?_drop, List.getElem?_drop]
            exact set_other h (by omega)
          · rfl
        · rfl
      | cons p1 p =>
        simp only [getG]
        rw [show stepLen (p1 :: p) m = 1 from rfl] at this
        rw [set_other h (by omega)]

theorem setG_addrG_apart {q p : List Nat} {row new row' : List GV} {base : Option (Nat × Nat)} (h : setG q row new = some row') (ha : apart1 q p new.length 1 = true) : addrG p base row' = addrG p base row := by
  cases q with
  | nil => cases h
  | cons q0 q =>
    cases p with
    | nil => rfl
    | cons p0 p =>
      have := apart1_spec ha
      cases p with
      | nil => rfl
      | cons p1 p =>
        simp only [addrG]
        rw [show stepLen (p1 :: p) 1 = 1 from rfl] at this
        rw [set_other h (by omega)]

theorem getG_win_short : ∀ {q p : List Nat} {row new row' : List GV} {sz n cap : Nat} {a : Option (Nat × Nat)} {cells : List GV}, setG q row new = some row' → p.length < q.length →
    getG p row 1 = some [.sl true sz n cap a cells] → ∃ cells', getG p row' 1 = some [.sl true sz n cap a cells']
  | [], _, _, _, _, _, _, _, _, _, h, _, _ => by cases h
  | [q0], p, _, _, _, _, _, _, _, _, _, hl, hg => by
    cases p with
    | nil => cases hg
    | cons => simp at hl
  | q0 :: q1 :: q, p, row, new, row', sz, n, cap, a, cells, h, hl, hg => by
    simp only [setG] at h
    split at h
    · rename_i sz' m cap' a' cells' hc
      simp only [Option.map_eq_some_iff] at h
      obtain ⟨c, hc', rfl⟩ := h
      match p, hl, hg with
      | [], _, hg => cases hg
      | [o], _, hg =>
        simp only [getG] at hg ⊢
        split at hg
        · rename_i hle
          rw [if_pos (by simpa using hle)]
          have hh := Option.some.inj hg
          rw [List.drop_eq_getElem_cons (by omega), List.take_succ_cons, List.take_zero] at hh
          have hh := (List.cons.inj hh).1
          rw [List.drop_eq_getElem_cons (by simp; omega), List.take_succ_cons, List.take_zero]
          rw [List.getElem_set]
          split
          · rename_i heq
            subst heq
            have : row[q0]? = some row[q0] := List.getElem?_eq_getElem (by omega)
            rw [hc, hh] at this
            cases this
            exact ⟨c, rfl⟩
          · rw [hh]; exact ⟨cells, rfl⟩
        · cases hg
      | o :: o' :: p, hl, hg =>
        simp only [getG] at hg ⊢
        rw [List.getElem?_set]
        by_cases heq : q0 = o
        · subst heq
          rw [hc] at hg
          rw [if_pos rfl, if_pos (List.getElem?_eq_some_iff.1 hc).1]
          exact getG_win_short hc' (by simp at hl ⊢; omega) hg
        · rw [if_neg heq]
          exact ⟨cells, hg⟩
    · cases h

/-- What is safe is kept. -/
theorem TV.safe_keeps {gr gr' : List GR} {k : Key} {q : List Nat} {new : List GV}
    (hs : ∀ R, R ∈ gr → R.key ≠ k → R ∈ gr') (hk : ∀ R, R ∈ gr → R.key = k → ∃ R', R' ∈ gr' ∧ R'.key = k ∧ R'.loc = R.loc ∧ setG q R.row new = some R'.row) :
    ∀ {tv : TV}, tv.safe k q new.length = true → KeepsTV gr gr' tv := by
  have adr : ∀ r p, safeAdr k q new.length r p = true → KeepsAdr gr gr' r p := by
    intro r p h R hR hr
    by_cases hrk : r = k
    · obtain ⟨R', h1, h2, h3, h4⟩ := hk R hR (hr.trans hrk)
      refine ⟨R', h1, h2.trans hrk.symm, h3, fun x hx => ?_⟩
      rw [h3]
      simp only [safeAdr, keyEq_iff.2 hrk, Bool.not_true, Bool.false_or, Bool.or_eq_true, Nat.ble_eq] at h
      rcases h with h | h
      · exact setG_addrG_short h4 h hx
      · rw [setG_addrG_apart h4 h]; exact hx
    · exact ⟨R, hs R hR (by rw [hr]; exact hrk), hr, rfl, fun x h => h⟩
  intro tv h
  induction tv with
  | val => trivial
  | nil => trivial
  | adr r p => exact adr r p h
  | view agg r p n =>
    intro R hR hr
    by_cases hrk : r = k
    · obtain ⟨R', h1, h2, h3, h4⟩ := hk R hR (hr.trans hrk)
      refine ⟨R', h1, h2.trans hrk.symm, h3, fun gs hg => ?_⟩
      simp only [TV.safe, keyEq_iff.2 hrk, Bool.not_true, Bool.false_or, Bool.or_eq_true, Nat.blt_eq] at h
      rcases h with h | h
      · exact setG_getG_short h4 h hg
      · exact ⟨gs, by rw [setG_getG_apart h4 h]; exact hg, rfl⟩
    · exact ⟨R, hs R hR (by rw [hr]; exact hrk), hr, rfl, fun gs h => ⟨gs, h, rfl⟩⟩
  | sh r q0 m =>
    intro R hR hr
    by_cases hrk : r = k
    · obtain ⟨R', h1, h2, h3, h4⟩ := hk R hR (hr.trans hrk)
      refine ⟨R', h1, h2.trans hrk.symm, h3, fun gs hg => ?_⟩
      simp only [TV.safe, keyEq_iff.2 hrk, Bool.not_true, Bool.false_or, Bool.or_eq_true, Nat.blt_eq] at h
      rcases h with h | h
      · exact setG_getG_short h4 (by simpa using h) hg
      · exact ⟨gs, by rw [setG_getG_apart h4 h]; exact hg, rfl⟩
    · exact ⟨R, hs R hR (by rw [hr]; exact hrk), hr, rfl, fun gs h => ⟨gs, h, rfl⟩⟩
  | win r p lo n =>
    intro R hR hr
    by_cases hrk : r = k
    · obtain ⟨R', h1, h2, h3, h4⟩ := hk R hR (hr.trans hrk)
      refine ⟨R', h1, h2.trans hrk.symm, h3, fun sz m cap a cells hg => ?_⟩
      simp only [TV.safe, keyEq_iff.2 hrk, Bool.not_true, Bool.false_or, Bool.or_eq_true, Nat.blt_eq] at h
      rcases h with h | h
      · exact getG_win_short h4 h hg
      · exact ⟨cells, by rw [setG_getG_apart h4 h]; exact hg⟩
    · exact ⟨R, hs R hR (by rw [hr]; exact hrk), hr, rfl, fun sz m cap a cells h => ⟨cells, h⟩⟩
  | fadr => trivial
  | clo f caps =>
    intro c hc
    cases c with
    | adr r p =>
      simp only [TV.safe, List.all_eq_true] at h
      exact adr r p (h _ hc)
    | fadr _ => trivial
  | grd g tv ih => exact ih h

theorem Keeps.trans {gr gr1 gr2 : List GR} {r : Key} {f g k : GR → GR → Prop} (h1 : Keeps gr gr1 r f) (h2 : Keeps gr1 gr2 r g) (hf : ∀ A B C, f A B → g B C → B.loc = A.loc → C.loc = B.loc → k A C) : Keeps gr gr2 r k := by
  intro R hR hr
  obtain ⟨R1, a1, a2, a3, a4⟩ := h1 R hR hr
  obtain ⟨R2, b1, b2, b3, b4⟩ := h2 R1 a1 a2
  exact ⟨R2, b1, b2, b3.trans a3, hf _ _ _ a4 b4 a3 b3⟩

theorem KeepsAdr.trans {gr gr1 gr2 : List GR} {r : Key} {p : List Nat} (h1 : KeepsAdr gr gr1 r p) (h2 : KeepsAdr gr1 gr2 r p) : KeepsAdr gr gr2 r p :=
  Keeps.trans h1 h2 fun A B C f g _ _ x hx => g x (f x hx)

theorem KeepsTV.trans {gr gr1 gr2 : List GR} : ∀ {tv : TV}, KeepsTV gr gr1 tv → KeepsTV gr1 gr2 tv → KeepsTV gr gr2 tv
  | .val .., _, _ => trivial
  | .nil, _, _ => trivial
  | .adr r p, h1, h2 => KeepsAdr.trans h1 h2
  | .view agg r p n, h1, h2 => Keeps.trans h1 h2 fun A B C f g _ _ gs hg => by
      obtain ⟨gs1, q1, q2⟩ := f gs hg
      obtain ⟨gs2, r1, r2⟩ := g gs1 q1
      exact ⟨gs2, r1, r2.trans q2⟩
  | .sh r q m, h1, h2 => Keeps.trans h1 h2 fun A B C f g _ _ gs hg => by
      obtain ⟨gs1, q1, q2⟩ := f gs hg
      obtain ⟨gs2, r1, r2⟩ := g gs1 q1
      exact ⟨gs2, r1, r2.trans q2⟩
  | .win r p lo n, h1, h2 => Keeps.trans h1 h2 fun A B C f g _ _ sz m cap a cells hg => by
      obtain ⟨c1, q1⟩ := f sz m cap a cells hg
      exact g sz m cap a c1 q1
  | .fadr _, _, _ => trivial
  | .clo f caps, h1, h2 => fun c hc => by
      have q1 := h1 c hc
      have q2 := h2 c hc
      cases c with
      | adr r p => exact KeepsAdr.trans q1 q2
      | fadr _ => trivial
  | .grd g tv, h1, h2 => KeepsTV.trans (tv := tv) h1 h2

end Go.Proofs.YtddfcajdelfikaaDoor.Vm
