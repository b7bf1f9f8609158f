/- Quiet operations, one by one. -/
import Derived.Test.YtddfcajdelfikaaDoorVm3
set_option linter.unusedVariables false
set_option linter.unusedSimpArgs false
set_option linter.unusedSectionVars false
namespace Go.Proofs.YtddfcajdelfikaaDoor.Vm
open Go
open GV (absL extsL fzL)
open PV (frzL)

/-- Row of n cells at a path: what a load, or a part of a value in flight, tells. -/
def viewOf (agg : Bool) (r : Key) (p : List Nat) (n : Nat) (row : List PV) : TV :=
  bif hasOwn row then .view agg r p n else .val agg row

def evLoad (T : Tab) (st : St) (G : Bool) (t : Nat) (a : Operand) : Option TV :=
  match T.get t, st.opg G a with
  | some e, some (.adr r p) => match rlk st.roots r with
    | some R => match getP p R.row e.size with
      | some row => some (viewOf e.agg r p e.size row)
      | none => none
    | none => none
  | some e, some (.fadr row) => chk G (Nat.ble e.size row.length) (some (.val e.agg (row.take e.size)))
  | some e, some (.sh r q m) => match rlk st.roots r with
    | some R => match getP [q] R.row e.size with
      | some row => bif Nat.ble e.size m then some (viewOf e.agg r [q] e.size row) else none
      | none => none
    | none => none
  | _, _ => none

def evFieldAddr (T : Tab) (st : St) (G : Bool) (s : Nat) (x : Operand) (f : Nat) : Option TV :=
  match T.fld s f, st.opg G x with
  | some (off, e), some (.adr r p) => if 0 < e.size then some (.adr r (bump p off)) else none
  | some (off, e), some (.fadr row) => if 0 < e.size then some (.fadr (row.drop off)) else none
  | some (off, e), some (.sh r q m) => if 0 < e.size then (bif Nat.ble off m then some (.sh r (q + off) (m - off)) else none) else none
  | _, _ => none

def evField (T : Tab) (st : St) (G : Bool) (t : Nat) (x : Operand) (f : Nat) : Option TV :=
  match T.fld t f, st.opg G x with
  | some (off, e), some (.val true row) => chk G (Nat.ble (off + e.size) row.length) (some (.val e.agg (sub row off e.size)))
  | some (off, e), some (.view true r p n) => match rlk st.roots r with
    | some R => if off + e.size ≤ n then (match getP (bump p off) R.row e.size with
      | some row => some (viewOf e.agg r (bump p off) e.size row)
      | none => none) else none
    | none => none
  | _, _ => none

def inRange (i : Int) (n : Nat) : Bool := decide (0 ≤ i) && decide (i < n)

def evIndexAddr (T : Tab) (st : St) (G : Bool) (t : Nat) (x i : Operand) : Option TV :=
  match T.el t, st.opg G x, st.sc G i with
  | some e, some (.val false [.sl false sz n cells]), some (.int _ i) =>
    if sz = e.size then chk G (inRange i n) (some (.fadr (cells.drop (i.toNat * sz)))) else none
  | some e, some (.view false r p 1), some (.int _ i) => match rlk st.roots r with
    | some R => match getP p R.row 1 with
      | some [.sl own sz n cells] => if sz = e.size then chk G (inRange i n) (some (.adr r (p ++ [i.toNat * sz]))) else none
      | _ => none
    | none => none
  | some e, some (.win r p lo n), some (.int _ i) => match rlk st.roots r with
    | some R => match getP p R.row 1 with
      | some [.sl true sz m cells] => if sz = e.size then chk G (inRange i n) (some (.adr r (p ++ [(lo + i.toNat) * sz]))) else none
      | _ => none
    | none => none
  | _, _, _ => none

def evIndex (T : Tab) (st : St) (G : Bool) (t : Nat) (x i : Operand) : Option TV :=
  match T.get t, st.sc G x, st.sc G i with
  | some ⟨_, _, .str, _, _⟩, some (.str s), some (.int _ i) => chk G (inRange i s.length) (some (.val false [.int .u8 ((s.getD i.toNat 0).toNat)]))
  | _, _, _ => none

def evLen (T : Tab) (st : St) (G : Bool) (t : Nat) (x : Operand) : Option TV :=
  match T.get t, st.opg G x with
  | some ⟨_, _, .str, _, _⟩, some (.val false [.str s]) => some (.val false [.int .i64 s.length])
  | some ⟨_, _, .slice _, _, _⟩, some .nil => some (.val false [.int .i64 0])
  | some ⟨_, _, .slice _, _, _⟩, some (.val false [.sl _ _ n _]) => some (.val false [.int .i64 n])
  | some ⟨_, _, .slice _, _, _⟩, some (.win _ _ _ n) => some (.val false [.int .i64 n])
  | some ⟨_, _, .slice _, _, _⟩, some (.view false r p 1) => match rlk st.roots r with
    | some R => match getP p R.row 1 with
      | some [.sl _ _ n _] => some (.val false [.int .i64 n])
      | _ => none
    | none => none
  | _, _ => none

def evBinTV (T : Tab) (st : St) (G : Bool) (op : BinOp) (t : Nat) (x y : Operand) : Option TV :=
  match st.sc G x, st.sc G y with
  | some p, some q => bif p.isSc && q.isSc then (match evBin T op t p q with
    | some r => some (.val false [r])
    | none => none) else none
  | _, _ => none

def evNot (st : St) (G : Bool) (x : Operand) : Option TV :=
  match st.sc G x with
  | some (.bool b) => some (.val false [.bool (!b)])
  | _ => none

def evNeg (st : St) (G : Bool) (x : Operand) : Option TV :=
  match st.sc G x with
  | some (.int k n) => some (.val false [.int k (k.wrap (0 - n))])
  | _ => none

/-- Both sides of a pick; one that is not taken need not be there. -/
def evPick (st : St) (G : Bool) (c x y : Operand) : Option TV :=
  match st.sc G c, st.opv x, st.opv y with
  | some (.bool c), some (.val false [.bool p]), some (.val false [.bool q]) => some (.val false [.bool (if c then p else q)])
  | some (.bool c), some (.grd g (.val false [.bool p])), some (.val false [.bool q]) => chk G (!c || g) (some (.val false [.bool (if c then p else q)]))
  | some (.bool c), some (.val false [.bool p]), some (.grd g (.val false [.bool q])) => chk G (c || g) (some (.val false [.bool (if c then p else q)]))
  | _, _, _ => none

def evConv (T : Tab) (st : St) (G : Bool) (src dst : Nat) (x : Operand) : Option TV :=
  match T.get src, T.get dst, st.sc G x with
  | some ⟨_, _, .int _, _, _⟩, some ⟨_, _, .int k, _, _⟩, some (.int _ n) => some (.val false [.int k (k.wrap n)])
  | some ⟨_, _, .str, _, _⟩, some ⟨_, _, .str, _, _⟩, some (.str s) => some (.val false [.str s])
  | _, _, _ => none

/-- The bounds of a slice expression: given, or the whole. -/
def bound (st : St) (G : Bool) (d : Nat) : Option Operand → Option Int
  | none => some d
  | some x => match st.sc G x with
    | some (.int _ i) => some i
    | _ => none

def evSliceStr (T : Tab) (st : St) (G : Bool) (t : Nat) (x : Operand) (lo hi : Option Operand) : Option TV :=
  match T.get t, st.sc G x with
  | some ⟨_, _, .str, _, _⟩, some (.str s) => match bound st G 0 lo, bound st G s.length hi with
    | some l, some h => chk G (decide (0 ≤ l) && decide (l ≤ h) && decide (h ≤ s.length)) (some (.val false [.str ((s.take h.toNat).drop l.toNat)]))
    | _, _ => none
  | _, _ => none

def evExtract (st : St) (G : Bool) (x : Operand) (i : Nat) : Option TV :=
  match x with
  | .tmp t => match lk st.env t (i + 1) with
    | some (.grd _ _) => none
    | r => r
  | _ => none

def evNilCheck (st : St) (G : Bool) (x : Operand) : Option TV :=
  match st.opg G x with
  | some (.adr r p) => some (.adr r p)
  | some (.fadr row) => some (.fadr row)
  | _ => none

/-! ### and the machine tells it -/

section
variable {P : Program} {T : Tab} (hT : TabOk P T) {Z : Nat → Nat → Prop} {w0 : World} {E0 : List Ext} {pins : List Pin} {gr : List GR} {a : Act} {w : World} {st : St}
  (h : Rel Z w0 E0 pins gr a w st) {G : Bool} (hG : G = true) {tv : TV}

theorem chk_true {α : Type} {G c : Bool} {x : Option α} {y : α} (hG : G = true) (h : chk G c x = some y) : c = true ∧ x = some y := by
  subst hG
  unfold chk at h
  cases c <;> simp at h ⊢
  exact h

theorem hasOwn_false_fz {O : Nat → Nat → Prop} : ∀ {gs : List GV}, SatL w O gs → hasOwn (absL gs) = false → fzL gs
  | [], _, _ => trivial
  | g :: gs, hs, ho => by
    simp only [SatL] at hs
    simp only [GV.absL, hasOwn, Bool.or_eq_false_iff] at ho
    refine ⟨?_, hasOwn_false_fz hs.2 ho.2⟩
    cases g with
    | sc => trivial
    | sl own sz n cap b cells =>
      have := hs.1
      simp only [Sat] at this
      simp only [GV.abs, PV.isOwn] at ho
      cases own with
      | true => exact absurd ho.1 (by simp)
      | false => exact ⟨rfl, this.2.2.2.2.2.1 rfl⟩

theorem viewOf_ok {agg : Bool} {r : Key} {p : List Nat} {n : Nat} {R : GR} (hR : R ∈ gr) (hr : R.key = r) {gs : List GV} (hg : getG p R.row n = some gs)
    (hs : SatL w (OW Z gr) gs) {v : Value} (hp : Packed agg gs v) : TVOk Z w gr v (viewOf agg r p n (absL gs)) := by
  unfold viewOf
  cases ho : hasOwn (absL gs) with
  | true => exact ⟨R, hR, hr, gs, hg, hp⟩
  | false => exact ⟨gs, rfl, hasOwn_false_fz hs ho, hs, hp⟩

include hT h hG

theorem getP_getG {R : GR} (hR : R ∈ gr) {p : List Nat} {n : Nat} {row : List PV} (hg : getP p R.root.row n = some row) : ∃ gs, getG p R.row n = some gs ∧ absL gs = row := by
  have := getP_absL p R.row n (h.sat R hR)
  simp only [GR.root] at hg
  rw [hg] at this
  cases hgg : getG p R.row n with
  | none => rw [hgg] at this; cases this
  | some gs => rw [hgg] at this; cases this; exact ⟨gs, rfl, rfl⟩

theorem evLoad_ok {t : Nat} {x : Operand} (he : evLoad T st G t x = some tv) : ∃ v, (Instr.loadAt t (a.eval x)).run P w = .ok v w ∧ TVOk Z w gr v tv := by
  unfold evLoad at he
  split at he
  · rename_i e r p ht hx
    obtain ⟨R, hR, hr, y, hy, hv⟩ := h.opg hx hG
    split at he
    · rename_i S hS
      split at he
      · rename_i row hrow
        cases he
        obtain ⟨R', hR', hr', rfl⟩ := h.root hS
        obtain rfl := h.uniq hR' hR (hr'.trans hr.symm)
        obtain ⟨gs, hg, rfl⟩ := getP_getG hT h hG hR hrow
        obtain ⟨b, o⟩ := y
        have hm := getG_mem (h.sat _ hR) (h.mem _ hR) hg hy
        obtain ⟨v, hv1, hv2⟩ := run_loadVar_mem (P := P) hT ht hm (getG_length hg)
        refine ⟨v, ?_, viewOf_ok hR hr hg (getG_sat (h.sat _ hR) hg) hv2⟩
        simp only [Instr.loadAt, hv, Instr.sureAddr, addrOf, Sem.run_bind, Sem.run_pure, Result.andThen_ok]
        exact hv1
      · cases he
    · cases he
  · rename_i e row ht hx
    obtain ⟨gs, b, o, h1, h2, h3, h4, h5, hv⟩ := h.opg hx hG
    obtain ⟨hc, he⟩ := chk_true hG he
    cases he
    have hl : e.size ≤ gs.length := by rw [← absL_length, h1]; exact Nat.le_of_ble_eq_true hc
    have hm : Mem w (some (b, o)) (gs.take e.size) := by
      intro b' o' hb i g hg
      rw [List.getElem?_take] at hg
      split at hg
      · exact h4 b' o' hb i g hg
      · cases hg
    obtain ⟨v, hv1, hv2⟩ := run_loadVar_mem (P := P) hT ht hm (by simp; omega)
    refine ⟨v, ?_, gs.take e.size, by rw [absL_take, h1], fzL_iff.2 fun g hg => fzL_iff.1 h2 g (List.mem_of_mem_take hg), SatL_iff.2 fun g hg => SatL_iff.1 h3 g (List.mem_of_mem_take hg), hv2⟩
    simp only [Instr.loadAt, hv, Instr.sureAddr, addrOf, Sem.run_bind, Sem.run_pure, Result.andThen_ok]
    exact hv1
  · rename_i e r q m ht hx
    obtain ⟨R, hR, hr, gs, hg, b, o, hv, hm, hn⟩ := h.opg hx hG
    split at he
    · rename_i S hS
      split at he
      · rename_i row hrow
        cases hb : Nat.ble e.size m with
        | false => rw [hb] at he; cases he
        | true =>
          rw [hb] at he
          simp only [cond_true] at he
          cases he
          obtain ⟨R', hR', hr', rfl⟩ := h.root hS
          obtain rfl := h.uniq hR' hR (hr'.trans hr.symm)
          obtain ⟨gs2, hg2, rfl⟩ := getP_getG hT h hG hR hrow
          have hle := Nat.le_of_ble_eq_true hb
          have hpre : gs2 = gs.take e.size := by
            simp only [getG] at hg hg2
            split at hg
            · split at hg2
              · cases hg
                cases hg2
                rw [List.take_take, Nat.min_eq_left hle]
              · cases hg2
            · cases hg
          have hm2 : Mem w (some (b, o)) gs2 := by
            intro b' o' hbo i g hi
            cases hbo
            rw [hpre, List.getElem?_take] at hi
            split at hi
            · exact hm i g hi
            · cases hi
          obtain ⟨v, hv1, hv2⟩ := run_loadVar_mem (P := P) hT ht hm2 (getG_length hg2)
          refine ⟨v, ?_, viewOf_ok hR hr hg2 (getG_sat (h.sat _ hR) hg2) hv2⟩
          simp only [Instr.loadAt, hv, Instr.sureAddr, addrOf, Sem.run_bind, Sem.run_pure, Result.andThen_ok]
          exact hv1
      · cases he
    · cases he
  · cases he

omit hT h hG in
theorem addrG_bump : ∀ {p : List Nat} {base : Option (Nat × Nat)} {row : List GV} {b o d : Nat}, addrG p base row = some (b, o) → addrG (bump p d) base row = some (b, o + d)
  | [], _, _, _, _, _, h => by cases h
  | [o0], base, row, b, o, d, h => by
    simp only [addrG, bump] at h ⊢
    cases base with
    | none => cases h
    | some x => simp only [Option.map_some, Option.some.injEq, Prod.mk.injEq] at h ⊢; omega
  | o0 :: o1 :: p, base, row, b, o, d, h => by
    simp only [bump]
    cases hb : bump (o1 :: p) d with
    | nil => cases p <;> simp [bump] at hb
    | cons q qs =>
      simp only [addrG] at h ⊢
      split at h
      · rw [← hb]; exact addrG_bump h
      · cases h

omit h hG in
theorem fld_ok {s f off : Nat} {e : TE} (hf : T.fld s f = some (off, e)) :
    ∃ fields fd, P.underlying s = some (.struct fields) ∧ fields[f]? = some fd ∧ fd.offset = off ∧ T.get fd.type = some e := by
  unfold Tab.fld at hf
  split at hf
  · rename_i fs _ hs
    have hk := (hT s _ hs).kind
    obtain ⟨fields, _, hu, hfs, _⟩ := hk
    split at hf
    · rename_i off' ft hft
      split at hf
      · rename_i e' he'
        cases hf
        rw [← hfs, List.getElem?_map] at hft
        cases hq : fields.toList[f]? with
        | none => rw [hq] at hft; cases hft
        | some fd =>
          rw [hq] at hft
          simp only [Option.map_some, Option.some.injEq, Prod.mk.injEq] at hft
          obtain ⟨rfl, rfl⟩ := hft
          exact ⟨fields, fd, hu, by simpa using hq, rfl, he'⟩
      · cases hf
    · cases hf
  · cases hf

omit h hG in
theorem run_fieldAt {s f off : Nat} {e : TE} (hf : T.fld s f = some (off, e)) (hs : 0 < e.size) (b o : Nat) :
    (Instr.fieldAt s (.pointer (some ⟨b, o, none⟩)) f).run P w = .ok (.pointer (some ⟨b, o + off, none⟩)) w := by
  obtain ⟨fields, fd, hu, hfd, rfl, he⟩ := fld_ok hT hf
  simp [Instr.fieldAt, run_underlying hu, hfd, Instr.sureAddr, fieldPlace, run_size hT w he, Nat.ne_of_gt hs, Addr.add_lit]

theorem evFieldAddr_ok {s f : Nat} {x : Operand} (he : evFieldAddr T st G s x f = some tv) : ∃ v, (Instr.fieldAt s (a.eval x) f).run P w = .ok v w ∧ TVOk Z w gr v tv := by
  unfold evFieldAddr at he
  split at he
  · rename_i off e r p hf hx
    obtain ⟨R, hR, hr, ⟨b, o⟩, hy, hv⟩ := h.opg hx hG
    split at he
    · rename_i hs
      cases he
      refine ⟨_, by rw [hv]; exact run_fieldAt hT hf hs b o, R, hR, hr, (b, o + off), addrG_bump hy, rfl⟩
    · cases he
  · rename_i off e row hf hx
    obtain ⟨gs, b, o, h1, h2, h3, h4, h5, hv⟩ := h.opg hx hG
    split at he
    · rename_i hs
      cases he
      refine ⟨_, by rw [hv]; exact run_fieldAt hT hf hs b o, gs.drop off, b, o + off, by rw [absL_drop, h1], fzL_iff.2 fun g hg => fzL_iff.1 h2 g (List.mem_of_mem_drop hg),
        SatL_iff.2 fun g hg => SatL_iff.1 h3 g (List.mem_of_mem_drop hg), ?_, ?_, rfl⟩
      · intro b' o' hb i g hg
        cases hb
        rw [List.getElem?_drop] at hg
        have := h4 b o rfl _ g hg
        rwa [← Nat.add_assoc] at this
      · intro i hi
        rw [Nat.add_assoc]
        exact h5 (off + i) (by simp at hi; omega)
    · cases he
  · rename_i off e r q m hf hx
    obtain ⟨R, hR, hr, gs, hg, b, o, hv, hm, hn⟩ := h.opg hx hG
    split at he
    · rename_i hs
      cases hb : Nat.ble off m with
      | false => rw [hb] at he; cases he
      | true =>
        rw [hb] at he
        simp only [cond_true] at he
        cases he
        have hle := Nat.le_of_ble_eq_true hb
        refine ⟨_, by rw [hv]; exact run_fieldAt hT hf hs b o, R, hR, hr, gs.drop off, ?_, b, o + off, rfl, fun i g hi => ?_, fun i hi => ?_⟩
        · simp only [getG] at hg ⊢
          split at hg
          · cases hg
            rw [if_pos (by omega), List.drop_take, List.drop_drop]
          · cases hg
        · rw [List.getElem?_drop] at hi
          have := hm _ g hi
          rwa [← Nat.add_assoc] at this
        · rw [Nat.add_assoc]
          exact hn (off + i) (by omega)
    · cases he
  · cases he


omit hT h hG in
theorem getG_sub : ∀ {p : List Nat} {row gs : List GV} {n off m : Nat}, getG p row n = some gs → off + m ≤ n → getG (bump p off) row m = some ((gs.drop off).take m)
  | [], _, _, _, _, _, h, _ => by cases h
  | [o0], row, gs, n, off, m, h, hl => by
    simp only [getG, bump] at h ⊢
    split at h
    · cases h
      rw [if_pos (by omega), List.drop_take, List.take_take, List.drop_drop, Nat.min_eq_left (by omega)]
    · cases h
  | o0 :: o1 :: p, row, gs, n, off, m, h, hl => by
    simp only [bump]
    cases hb : bump (o1 :: p) off with
    | nil => cases p <;> simp [bump] at hb
    | cons q qs =>
      simp only [getG] at h ⊢
      split at h
      · rw [← hb]; exact getG_sub h hl
      · cases h

omit h hG in
theorem run_part {ft : Nat} {e : TE} (he : T.get ft = some e) {gs : List GV} {off : Nat} (hl : off + e.size ≤ gs.length) :
    ∃ v, (part ft (gs.map GV.val).toArray off).run P w = .ok v w ∧ Packed e.agg ((gs.drop off).take e.size) v := by
  unfold part
  rw [Sem.run_bind, run_isAgg hT w he]
  cases ha : e.agg with
  | true =>
    refine ⟨.agg (((gs.drop off).take e.size).map GV.val).toArray, ?_, rfl⟩
    simp only [Result.andThen_ok, if_true, Sem.run_bind, run_size hT w he, Sem.run_pure]
    congr 3
    apply Array.ext'
    simp [List.map_take, List.map_drop]
  | false =>
    have h1 := (hT ft e he).one ha
    have ho : off < gs.length := by omega
    refine ⟨gs[off].val, ?_, gs[off], ?_, rfl⟩
    · have : (gs.map GV.val).toArray[off]? = some gs[off].val := by simp [ho]
      simp only [Result.andThen_ok, Bool.false_eq_true, if_false, this, Sem.run_pure]
    · rw [h1, List.drop_eq_getElem_cons ho]; rfl

theorem evField_ok {t f : Nat} {x : Operand} (he : evField T st G t x f = some tv) : ∃ v, (Instr.field t (a.eval x) f).run P w = .ok v w ∧ TVOk Z w gr v tv := by
  unfold evField at he
  split at he
  · rename_i off e row hf hx
    obtain ⟨gs, h1, h2, h3, hv⟩ := h.opg hx hG
    obtain ⟨hc, he⟩ := chk_true hG he
    cases he
    obtain ⟨fields, fd, hu, hfd, rfl, hte⟩ := fld_ok hT hf
    have hl : fd.offset + e.size ≤ gs.length := by rw [← absL_length, h1]; exact Nat.le_of_ble_eq_true hc
    obtain ⟨v, hv1, hv2⟩ := run_part (w := w) hT hte hl
    simp only [Packed] at hv
    refine ⟨v, by simp [Instr.field, run_underlying hu, hfd, hv, asAgg, hv1], (gs.drop fd.offset).take e.size, by rw [absL_take, absL_drop, h1]; rfl, fzL_iff.2 fun g hg => fzL_iff.1 h2 g (List.mem_of_mem_drop (List.mem_of_mem_take hg)),
      SatL_iff.2 fun g hg => SatL_iff.1 h3 g (List.mem_of_mem_drop (List.mem_of_mem_take hg)), hv2⟩
  · rename_i off e r p n hf hx
    obtain ⟨R, hR, hr, gs, hg, hv⟩ := h.opg hx hG
    split at he
    · rename_i S hS
      split at he
      · rename_i hle
        split at he
        · rename_i row hrow
          cases he
          obtain ⟨R', hR', hr', rfl⟩ := h.root hS
          obtain rfl := h.uniq hR' hR (hr'.trans hr.symm)
          obtain ⟨gs', hg', rfl⟩ := getP_getG hT h hG hR hrow
          have hg2 := getG_sub hg hle
          rw [hg2] at hg'
          cases hg'
          obtain ⟨fields, fd, hu, hfd, rfl, hte⟩ := fld_ok hT hf
          obtain ⟨v, hv1, hv2⟩ := run_part (w := w) hT hte (by rw [getG_length hg]; exact hle)
          simp only [Packed] at hv
          exact ⟨v, by simp [Instr.field, run_underlying hu, hfd, hv, asAgg, hv1], viewOf_ok hR hr hg2 (getG_sat (h.sat _ hR) hg2) hv2⟩
        · cases he
      · cases he
    · cases he
  · cases he

omit h hG in
theorem el_ok {t : Nat} {e : TE} (he : T.el t = some e) : ∃ el, P.underlying t = some (.slice el) ∧ T.get el = some e := by
  unfold Tab.el at he
  split at he
  · rename_i el _ _ hs
    exact ⟨el, (hT t _ hs).kind, he⟩
  · cases he

omit h hG in
theorem run_indexAt {t : Nat} {e : TE} (he : T.el t = some e) {b o n c : Nat} {k : IntKind} {i : Int} (hi : inRange i n = true) :
    (Instr.indexAt t (.slice (some ⟨b, o, none⟩) n c) (.int k i)).run P w = .ok (.pointer (some ⟨b, o + i.toNat * e.size, none⟩)) w := by
  obtain ⟨el, hu, hel⟩ := el_ok hT he
  simp only [inRange, Bool.and_eq_true, decide_eq_true_eq] at hi
  simp [Instr.indexAt, asIntOf, run_underlying hu, hi.1, hi.2, run_size hT w hel, Addr.add_lit]

omit hT h hG in
theorem addrG_snoc : ∀ {p : List Nat} {base : Option (Nat × Nat)} {row : List GV} {own : Bool} {sz n cap : Nat} {x : Option (Nat × Nat)} {cells : List GV} {j : Nat},
    getG p row 1 = some [.sl own sz n cap x cells] → addrG (p ++ [j]) base row = x.map fun y => (y.1, y.2 + j)
  | [], _, _, _, _, _, _, _, _, _, h => by cases h
  | [o0], base, row, own, sz, n, cap, x, cells, j, h => by
    simp only [getG] at h
    split at h
    · rename_i hl
      simp only [List.cons_append, List.nil_append, addrG]
      have : row[o0]? = some (.sl own sz n cap x cells) := by
        have hh := Option.some.inj h
        rw [List.drop_eq_getElem_cons (by omega), List.take_succ_cons, List.take_zero] at hh
        rw [List.getElem?_eq_getElem (by omega)]
        exact congrArg some (List.cons.inj hh).1
      rw [this]
    · cases h
  | o0 :: o1 :: p, base, row, own, sz, n, cap, x, cells, j, h => by
    simp only [getG] at h
    simp only [List.cons_append, addrG]
    split at h
    · exact addrG_snoc h
    · cases h

theorem slLeaf {O : Nat → Nat → Prop} {g : GV} {own : Bool} {sz n : Nat} {cells : List PV} (hs : Sat w O g) (hg : g.abs = .sl own sz n cells) :
    ∃ cap x gcells, g = .sl own sz n cap x gcells ∧ absL gcells = cells := by
  cases g with
  | sc v p => cases v <;> cases p <;> simp_all [Sat, ScOk, GV.abs]
  | sl own' sz' n' cap x gcells =>
    simp only [GV.abs, PV.sl.injEq] at hg
    obtain ⟨rfl, rfl, rfl, h4⟩ := hg
    exact ⟨cap, x, gcells, rfl, h4⟩

/-- A slice leaf at a path, seen from the values. -/
theorem leafAt {r : Key} {p : List Nat} {S : Root} (hS : rlk st.roots r = some S) {own : Bool} {sz n : Nat} {cells : List PV} (hrow : getP p S.row 1 = some [.sl own sz n cells])
    {R : GR} (hR : R ∈ gr) (hr : R.key = r) : ∃ cap x gcells, getG p R.row 1 = some [.sl own sz n cap x gcells] ∧ absL gcells = cells := by
  obtain ⟨R', hR', hr', rfl⟩ := h.root hS
  obtain rfl := h.uniq hR' hR (hr'.trans hr.symm)
  obtain ⟨gs, hg, he⟩ := getP_getG hT h hG hR hrow
  have hs := getG_sat (h.sat _ hR) hg
  obtain ⟨g, rfl⟩ := List.length_eq_one_iff.1 (getG_length hg)
  simp only [GV.absL, List.cons.injEq, and_true] at he
  simp only [SatL, and_true] at hs
  obtain ⟨cap, x, gcells, rfl, e⟩ := slLeaf hT h hG hs he
  exact ⟨cap, x, gcells, hg, e⟩

theorem evIndexAddr_ok {t : Nat} {x i : Operand} (he : evIndexAddr T st G t x i = some tv) : ∃ v, (Instr.indexAt t (a.eval x) (a.eval i)).run P w = .ok v w ∧ TVOk Z w gr v tv := by
  unfold evIndexAddr at he
  split at he
  · rename_i e sz n cells k iv hte hx hi
    split at he
    · rename_i hsz
      obtain ⟨hc, he⟩ := chk_true hG he
      cases he
      have hiv := h.int hi hG
      obtain ⟨gs, h1, h2, h3, g, rfl, hv⟩ := h.opg hx hG
      simp only [GV.absL, List.cons.injEq, and_true] at h1
      simp only [SatL, and_true] at h3
      obtain ⟨cap, y, gcells, rfl, rfl⟩ := slLeaf hT h hG h3 h1
      simp only [GV.fzL, GV.fz, and_true] at h2
      simp only [Sat] at h3
      have hir := hc
      simp only [inRange, Bool.and_eq_true, decide_eq_true_eq] at hir
      cases y with
      | none => have := (h3.2.2.1 rfl).1; omega
      | some y =>
        obtain ⟨b, o⟩ := y
        refine ⟨_, by rw [hv, hiv]; exact run_indexAt (w := w) hT hte hc, gcells.drop (iv.toNat * sz), b, o + iv.toNat * sz, by rw [absL_drop], fzL_iff.2 fun g hg => fzL_iff.1 h2.2 g (List.mem_of_mem_drop hg),
          SatL_iff.2 fun g hg => SatL_iff.1 h3.2.2.2.2.2.2 g (List.mem_of_mem_drop hg), ?_, ?_, ?_⟩
        · intro b' o' hb j g hg
          cases hb
          rw [List.getElem?_drop] at hg
          have := h3.2.2.2.1 b o rfl _ g hg
          rwa [← Nat.add_assoc] at this
        · intro j hj
          rw [Nat.add_assoc]
          exact (h3.2.2.2.2.1 b o rfl).2 trivial _ (by simp at hj; omega)
        · simp [addrOf, hsz]
    · cases he
  · rename_i e r p k iv hte hx hi
    obtain ⟨R, hR, hr, gs, hg, hv⟩ := h.opg hx hG
    split at he
    · rename_i S hS
      split at he
      · rename_i own sz n cells hrow
        split at he
        · rename_i hsz
          obtain ⟨hc, he⟩ := chk_true hG he
          cases he
          have hiv := h.int hi hG
          obtain ⟨cap, y, gcells, hg2, rfl⟩ := leafAt hT h hG hS hrow hR hr
          rw [hg2] at hg
          cases hg
          obtain ⟨g, hgg, hv⟩ := hv
          cases hgg
          have hs := getG_sat (h.sat _ hR) hg2
          simp only [SatL, and_true, Sat] at hs
          have hir := hc
          simp only [inRange, Bool.and_eq_true, decide_eq_true_eq] at hir
          cases y with
          | none => have := (hs.2.2.1 rfl).1; omega
          | some y =>
            obtain ⟨b, o⟩ := y
            exact ⟨_, by rw [hv, hiv]; exact run_indexAt (w := w) hT hte hc, R, hR, hr, (b, o + iv.toNat * sz), by rw [addrG_snoc hg2]; rfl, by simp [addrOf, hsz]⟩
        · cases he
      · cases he
    · cases he
  · rename_i e r p lo n k iv hte hx hi
    obtain ⟨R, hR, hr, sz', m', cap', y', cells', A, c, hg, hlo, hnc, hv, hA⟩ := h.opg hx hG
    split at he
    · rename_i S hS
      split at he
      · rename_i sz2 m cells hrow
        split at he
        · rename_i hsz
          obtain ⟨hc, he⟩ := chk_true hG he
          cases he
          have hiv := h.int hi hG
          obtain ⟨cap, y, gcells, hg2, rfl⟩ := leafAt hT h hG hS hrow hR hr
          rw [hg2] at hg
          cases hg
          have hir := hc
          simp only [inRange, Bool.and_eq_true, decide_eq_true_eq] at hir
          obtain ⟨b, o, rfl, rfl⟩ := hA.2.1 (by omega)
          refine ⟨_, by rw [hv, hiv]; exact run_indexAt (w := w) hT hte hc, R, hR, hr, (b, o + (lo + iv.toNat) * sz'), by rw [addrG_snoc hg2]; rfl, ?_⟩
          simp [addrOf, hsz, Nat.add_mul, Nat.add_assoc]
        · cases he
      · cases he
    · cases he
  · cases he

theorem evIndex_ok {t : Nat} {x i : Operand} (he : evIndex T st G t x i = some tv) : ∃ v, (Instr.index t (a.eval x) (a.eval i)).run P w = .ok v w ∧ TVOk Z w gr v tv := by
  unfold evIndex at he
  split at he
  · rename_i s k iv ht hx hi
    obtain ⟨hc, he⟩ := chk_true hG he
    cases he
    have hu := (hT t _ ht).kind
    simp only [] at hu
    simp only [inRange, Bool.and_eq_true, decide_eq_true_eq] at hc
    refine ⟨_, ?_, tv_sc (p := .int .u8 _) rfl⟩
    have hlt : iv.toNat < s.length := by omega
    have hb : (⟨s.toArray⟩ : ByteArray)[iv.toNat]? = some s[iv.toNat] := by
      rw [getElem?_pos _ _ (by simpa [ByteArray.size] using hlt)]
      congr 1
    simp [Instr.index, h.str hx hG, h.int hi hG, asIntOf, run_underlying hu, hc.1, hb, PV.toV, List.getD, List.getElem?_eq_getElem hlt]
  · cases he

omit hT h hG in
theorem size_mk (s : List UInt8) : (⟨s.toArray⟩ : ByteArray).size = s.length := by
  show s.toArray.size = _
  simp

theorem evLen_ok {t ty : Nat} {x : Operand} (he : evLen T st G t x = some tv) : ∃ v, (Builtin.len_ #[t] ty #[a.eval x]).run P w = .ok v w ∧ TVOk Z w gr v tv := by
  unfold evLen at he
  split at he
  · rename_i s ht hx
    cases he
    have hu := (hT t _ ht).kind
    obtain ⟨gs, h1, h2, h3, g, rfl, hv⟩ := h.opg hx hG
    simp only [GV.absL, List.cons.injEq, and_true] at h1
    simp only [SatL, and_true] at h3
    rw [sat_str h3 h1] at hv
    exact ⟨_, by simp [Builtin.len_, run_underlying hu, hv, goInt, PV.toV, size_mk], tv_sc (p := .int .i64 _) rfl⟩
  · rename_i el ht hx
    cases he
    have hu := (hT t _ ht).kind
    have hv : a.eval x = .slice none 0 0 := h.opg hx hG
    exact ⟨_, by simp [Builtin.len_, run_underlying hu, hv, goInt, PV.toV], tv_sc (p := .int .i64 _) rfl⟩
  · rename_i el own sz n cells ht hx
    cases he
    have hu := (hT t _ ht).kind
    obtain ⟨gs, h1, h2, h3, g, rfl, hv⟩ := h.opg hx hG
    simp only [GV.absL, List.cons.injEq, and_true] at h1
    simp only [SatL, and_true] at h3
    obtain ⟨cap, y, gcells, rfl, rfl⟩ := slLeaf hT h hG h3 h1
    exact ⟨_, by simp [Builtin.len_, run_underlying hu, hv, GV.val, goInt, PV.toV], tv_sc (p := .int .i64 _) rfl⟩
  · rename_i el r p lo n ht hx
    cases he
    have hu := (hT t _ ht).kind
    obtain ⟨R, hR, hr, sz', m', cap', y', cells', A, c, hg, hlo, hnc, hv, hA⟩ := h.opg hx hG
    exact ⟨_, by simp [Builtin.len_, run_underlying hu, hv, GV.val, goInt, PV.toV], tv_sc (p := .int .i64 _) rfl⟩
  · rename_i el r p ht hx
    have hu := (hT t _ ht).kind
    obtain ⟨R, hR, hr, gs, hg, hv⟩ := h.opg hx hG
    split at he
    · rename_i S hS
      split at he
      · rename_i own sz n cells hrow
        cases he
        obtain ⟨cap, y, gcells, hg2, rfl⟩ := leafAt hT h hG hS hrow hR hr
        rw [hg2] at hg
        cases hg
        obtain ⟨g, hgg, hv⟩ := hv
        cases hgg
        exact ⟨_, by simp [Builtin.len_, run_underlying hu, hv, GV.val, goInt, PV.toV], tv_sc (p := .int .i64 _) rfl⟩
      · cases he
    · cases he
  · cases he

theorem sc_toV {x : Operand} {p : PV} (hx : st.sc G x = some p) (hp : p.isSc = true) : a.eval x = p.toV := by
  obtain ⟨g, rfl, h2, h3, h4⟩ := h.sc hx hG
  rw [h4, sat_sc h3 hp]

theorem evBinTV_ok {op : BinOp} {t : Nat} {x y : Operand} (he : evBinTV T st G op t x y = some tv) :
    ∃ v, (do eqGuard op t x y (a.eval x) (a.eval y); binOp op t (a.eval x) (a.eval y) : Sem Value).run P w = .ok v w ∧ TVOk Z w gr v tv := by
  unfold evBinTV at he
  split at he
  · rename_i p q hx hy
    cases hpq : (p.isSc && q.isSc) with
    | false => rw [hpq] at he; cases he
    | true =>
      rw [hpq] at he
      simp only [cond_true] at he
      split at he
      · rename_i r hr
        cases he
        simp only [Bool.and_eq_true] at hpq
        obtain ⟨e1, e2⟩ := run_evBin (w := w) hT hr
        refine ⟨r.toV, ?_, tv_sc e2⟩
        rw [sc_toV hT h hG hx hpq.1, sc_toV hT h hG hy hpq.2]
        simp only [Sem.run_bind, run_eqGuard_sc hpq.1, Result.andThen_ok, e1]
      · cases he
  · cases he

theorem evNot_ok {x : Operand} (he : evNot st G x = some tv) : ∃ v, (Op.unary .not (a.eval x)).run P w = .ok v w ∧ TVOk Z w gr v tv := by
  unfold evNot at he
  split at he
  · rename_i b hx
    cases he
    exact ⟨_, by simp [h.bool hx hG, Op.unary, PV.toV], tv_sc (p := .bool _) rfl⟩
  · cases he

theorem evNeg_ok {x : Operand} (he : evNeg st G x = some tv) : ∃ v, (Op.unary .neg (a.eval x)).run P w = .ok v w ∧ TVOk Z w gr v tv := by
  unfold evNeg at he
  split at he
  · rename_i k n hx
    cases he
    exact ⟨_, by simp [h.int hx hG, Op.unary, Op.intArith, PV.toV], tv_sc (p := .int _ _) rfl⟩
  · cases he

theorem tv_bool {v : Value} {b : Bool} (hv : TVOk Z w gr v (.val false [.bool b])) : v = .bool b := by
  obtain ⟨gs, h1, h2, h3, g, rfl, hv⟩ := hv
  simp only [GV.absL, List.cons.injEq, and_true] at h1
  simp only [SatL, and_true] at h3
  rw [hv, sat_bool h3 h1]

theorem evPick_ok {c x y : Operand} (he : evPick st G c x y = some tv) :
    ∃ v, (do pure (if ← asBool (a.eval c) then a.eval x else a.eval y) : Sem Value).run P w = .ok v w ∧ TVOk Z w gr v tv := by
  unfold evPick at he
  split at he
  · rename_i c' p q hc hx hy
    cases he
    have e1 := tv_bool hT h hG (h.opv hx)
    have e2 := tv_bool hT h hG (h.opv hy)
    refine ⟨_, ?_, tv_sc (p := .bool _) rfl⟩
    cases c' <;> simp [h.bool hc hG, asBool, e1, e2, PV.toV]
  · rename_i c' g p q hc hx hy
    obtain ⟨hk, he⟩ := chk_true hG he
    cases he
    have e1 := h.opv hx
    have e2 := tv_bool hT h hG (h.opv hy)
    refine ⟨_, ?_, tv_sc (p := .bool _) rfl⟩
    cases c' with
    | false => simp [h.bool hc hG, asBool, e2, PV.toV]
    | true =>
      simp at hk
      subst hk
      simp [h.bool hc hG, asBool, tv_bool hT h hG (e1.1 rfl), PV.toV]
  · rename_i c' p g q hc hx hy
    obtain ⟨hk, he⟩ := chk_true hG he
    cases he
    have e1 := tv_bool hT h hG (h.opv hx)
    have e2 := h.opv hy
    refine ⟨_, ?_, tv_sc (p := .bool _) rfl⟩
    cases c' with
    | true => simp [h.bool hc hG, asBool, e1, PV.toV]
    | false =>
      simp at hk
      subst hk
      simp [h.bool hc hG, asBool, tv_bool hT h hG (e2.1 rfl), PV.toV]
  · cases he

theorem evConv_ok {src dst : Nat} {x : Operand} (he : evConv T st G src dst x = some tv) : ∃ v, (convert src dst (a.eval x)).run P w = .ok v w ∧ TVOk Z w gr v tv := by
  unfold evConv at he
  split at he
  · rename_i k k' k'' n hs hd hx
    cases he
    have hu := (hT src _ hs).kind
    have hv := (hT dst _ hd).kind
    exact ⟨_, by simp [convert, run_underlying hu, run_underlying hv, h.int hx hG, Conv.intToInt, PV.toV], tv_sc (p := .int _ _) rfl⟩
  · rename_i s hs hd hx
    cases he
    have hu := (hT src _ hs).kind
    have hv := (hT dst _ hd).kind
    exact ⟨_, by simp [convert, run_underlying hu, run_underlying hv, h.str hx hG, PV.toV], tv_sc (p := .str _) rfl⟩
  · cases he

theorem bound_ok {d y : Nat} {lo : Option Operand} {l : Int} (hb : bound st G d lo = some l) (h0 : 0 ≤ l) (hy : l ≤ y) (code : BoundsCode) :
    (match lo.map a.eval with
      | some v => Instr.sliceBound v y code
      | none => pure d : Sem Nat).run P w = .ok l.toNat w := by
  unfold bound at hb
  cases lo with
  | none =>
    simp only [Option.some.injEq] at hb
    subst hb
    simp
  | some x =>
    simp only [] at hb
    split at hb
    · rename_i k i hx
      cases hb
      simp only [Option.map_some, h.int hx hG]
      exact run_sliceBound w k l y code h0 hy
    · cases hb

omit hT h hG in
theorem extract_mk (s : List UInt8) (l h : Nat) : (⟨s.toArray⟩ : ByteArray).extract l h = ⟨((s.take h).drop l).toArray⟩ := by
  apply ByteArray.ext
  rw [ByteArray.data_extract]
  apply Array.ext'
  simp [List.drop_take]

theorem evSliceStr_ok {t : Nat} {x : Operand} {lo hi : Option Operand} (he : evSliceStr T st G t x lo hi = some tv) :
    ∃ v, (Instr.sliceAt t (a.eval x) (lo.map a.eval) (hi.map a.eval) none).run P w = .ok v w ∧ TVOk Z w gr v tv := by
  unfold evSliceStr at he
  split at he
  · rename_i s ht hx
    split at he
    · rename_i l hv hl hh
      obtain ⟨hk, he⟩ := chk_true hG he
      cases he
      simp only [Bool.and_eq_true, decide_eq_true_eq] at hk
      obtain ⟨⟨k1, k2⟩, k3⟩ := hk
      have hu := (hT t _ ht).kind
      simp only [] at hu
      refine ⟨_, ?_, tv_sc (p := .str _) rfl⟩
      have b1 := bound_ok (P := P) hT h hG (y := s.length) hh (by omega) k3 .sliceAlen
      have b2 := bound_ok (P := P) hT h hG (y := hv.toNat) hl k1 (by omega) .sliceB
      have hsz := size_mk s
      rw [run_sliceAt_string w t _ _ _ _ hu]
      have hext := extract_mk s l.toNat hv.toNat
      cases hi <;> cases lo <;> simp only [Option.map_some, Option.map_none, Sem.run_pure, Result.ok.injEq, and_true] at b1 b2 <;>
        simp [Instr.slice, Instr.sliceBounds, run_underlying hu, h.str hx hG, hsz, b1, b2, hext, PV.toV]
    · cases he
  · cases he

theorem evExtract_ok {x : Operand} {i : Nat} (he : evExtract st G x i = some tv) : ∃ v, (Instr.extract (a.eval x) i).run P w = .ok v w ∧ TVOk Z w gr v tv := by
  unfold evExtract at he
  split at he
  · rename_i t
    split at he
    · cases he
    · rename_i hne
      obtain ⟨h1, vs, v, h2, h3, h4⟩ := h.env _ (lk_mem he)
      exact ⟨v, by simp [Instr.extract, Act.eval, h2, h3], h4⟩
  · cases he

end

end Go.Proofs.YtddfcajdelfikaaDoor.Vm
