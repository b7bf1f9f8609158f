/- Quiet operations: what they tell at the level of values, and that the machine tells it. -/
import Derived.Test.YtddfcajdelfikaaDoorVm2
import Derived.Laws.StructEq
import Derived.Laws.Small
import Derived.Laws.Concat
import Derived.Laws.Strings
import Derived.Laws.Slices
set_option linter.unusedVariables false
set_option linter.unusedSimpArgs false
namespace Go.Proofs.YtddfcajdelfikaaDoor.Vm
open Go
open GV (absL extsL fzL)
open PV (frzL)

/-! ### the table is the program's -/

def PV.zg : PV → GV
  | .int k n => .sc (.int k n) (.int k n)
  | .bool b => .sc (.bool b) (.bool b)
  | .str s => .sc (.string ⟨s.toArray⟩) (.str s)
  | .sl _ sz _ _ => .sl true sz 0 0 none []
  | .dead => .sc (.bool false) .dead

def PV.isZ : PV → Bool
  | .sl true _ 0 [] => true
  | .sl .. => false
  | .dead => false
  | _ => true

/-- '==' of two values of a type is that of their rows of cells. -/
def EqSem (P : Program) (t : Nat) (z : List PV) : Prop :=
  P.eqGuardType P.depth t = false ∧ ∀ (w : World) (O : Nat → Nat → Prop) (gs1 gs2 : List GV) (b : Bool), SatL w O gs1 → SatL w O gs2 → gs1.length = P.cellsOf t → gs2.length = P.cellsOf t → sameKinds z (absL gs1) = true →
    eqRow (absL gs1) (absL gs2) = some b → (Op.equalIn 10000 t (.agg (gs1.map GV.val).toArray) (.agg (gs2.map GV.val).toArray)).run P w = .ok b w

structure TEOk (P : Program) (t : Nat) (e : TE) : Prop where
  info : ∃ i z, P.info? t = some i ∧ i.size = e.size ∧ i.bytes = e.bytes ∧ i.zero = some z ∧ z.cells.toList = e.zero.map fun p => p.zg.val
  zs : e.zero.all PV.isZ = true
  zl : e.zero.length = e.size
  one : e.agg = false → e.size = 1
  eqs : e.eq = true → e.agg = true → EqSem P t e.zero
  zagg : ∀ i z, P.info? t = some i → i.zero = some z → (e.agg = true → ∃ cs, z = .agg cs)
  kind : match e.kind with
    | .int k => P.underlying t = some (.int k)
    | .bool => P.underlying t = some .bool
    | .str => P.underlying t = some .string
    | .slice el => P.underlying t = some (.slice el)
    | .struct fs => ∃ fields places, P.underlying t = some (.struct fields) ∧ fields.toList.map (fun f => (f.offset, f.type)) = fs ∧
        fields.toList.mapM (fun f => (P.info? f.type).map fun i => (f.offset, i.size)) = some places

def TabOk (P : Program) (T : Tab) : Prop := ∀ t e, T.get t = some e → TEOk P t e

theorem abs_zg {p : PV} (h : p.isZ = true) : p.zg.abs = p := by
  cases p with
  | sl own sz n cells => cases own <;> cases n <;> cases cells <;> simp_all [PV.isZ, PV.zg, GV.abs, GV.absL]
  | _ => simp_all [PV.isZ, PV.zg, GV.abs]

theorem absL_zg {l : List PV} (h : l.all PV.isZ = true) : absL (l.map PV.zg) = l := by
  rw [absL_eq, List.map_map]
  conv => rhs; rw [← List.map_id l]
  apply List.map_congr_left
  intro p hp
  exact abs_zg (List.all_eq_true.1 h p hp)

theorem sat_zg {w : World} {O : Nat → Nat → Prop} {p : PV} (h : p.isZ = true) : Sat w O p.zg := by
  cases p with
  | sl own sz n cells =>
    cases own <;> cases n <;> cases cells <;> simp_all [PV.isZ, PV.zg, Sat, SatL, Mem]
  | _ => simp_all [PV.isZ, PV.zg, Sat, ScOk]

theorem satL_zg {w : World} {O : Nat → Nat → Prop} {l : List PV} (h : l.all PV.isZ = true) : SatL w O (l.map PV.zg) := by
  refine SatL_iff.2 fun g hg => ?_
  obtain ⟨p, hp, rfl⟩ := List.mem_map.1 hg
  exact sat_zg (List.all_eq_true.1 h p hp)

theorem exts_zg (p : PV) : p.zg.exts = [] := by cases p <;> simp [PV.zg, GV.exts, ownExt, GV.extsL]

theorem extsL_zg (l : List PV) : extsL (l.map PV.zg) = [] := by
  induction l with
  | nil => rfl
  | cons p l ih => simp [GV.extsL, exts_zg, ih]

section
variable {P : Program} {T : Tab} (hT : TabOk P T) {t : Nat} {e : TE} (w : World)
include hT

theorem run_size (h : T.get t = some e) : (sizeOf t).run P w = .ok e.size w := by
  obtain ⟨i, z, h1, h2, _⟩ := (hT t e h).info
  simp [sizeOf, typeInfo, h1, h2]

theorem run_isAgg (h : T.get t = some e) : (isAgg t).run P w = .ok e.agg w := by
  have hk := (hT t e h).kind
  unfold isAgg TE.agg
  cases hkk : e.kind <;> simp only [hkk] at hk ⊢
  · simp [run_underlying hk]
  · simp [run_underlying hk]
  · simp [run_underlying hk]
  · simp [run_underlying hk]
  · obtain ⟨fields, _, hf, _⟩ := hk
    simp [run_underlying hf]

theorem run_zero (h : T.get t = some e) : ∃ z, (zeroValue t).run P w = .ok z w ∧ z.cells.toList = e.zero.map fun p => p.zg.val := by
  obtain ⟨i, z, h1, h2, h3, h4, h5⟩ := (hT t e h).info
  exact ⟨z, by simp [zeroValue, typeInfo, h1, h4], h5⟩
end

theorem mem_cells {w : World} {b o : Nat} {gs : List GV} (h : Mem w (some (b, o)) gs) (j : Nat) (v : Value) (hv : (gs.map GV.val)[j]? = some v) : w.cell? ((⟨b, o, none⟩ : Addr).add j) = some v := by
  rw [Addr.add_lit]
  rw [List.getElem?_map] at hv
  cases hg : gs[j]? with
  | none => simp [hg] at hv
  | some g =>
    simp [hg] at hv
    subst hv
    exact h b o rfl j g hg

theorem run_loadCells_mem {P : Program} {w : World} {b o : Nat} {gs : List GV} (h : Mem w (some (b, o)) gs) : (loadCells ⟨b, o, none⟩ gs.length).run P w = .ok (gs.map GV.val).toArray w := by
  have := run_loadCells_list (P := P) w ⟨b, o, none⟩ (gs.map GV.val) (mem_cells h)
  simpa using this

theorem run_loadVar_mem {P : Program} {T : Tab} (hT : TabOk P T) {t : Nat} {e : TE} (h : T.get t = some e) {w : World} {b o : Nat} {gs : List GV} (hm : Mem w (some (b, o)) gs) (hl : gs.length = e.size) :
    ∃ v, (loadVar t ⟨b, o, none⟩).run P w = .ok v w ∧ Packed e.agg gs v := by
  unfold loadVar
  rw [Sem.run_bind, run_isAgg hT w h]
  cases ha : e.agg with
  | true =>
    refine ⟨.agg (gs.map GV.val).toArray, ?_, rfl⟩
    simp [run_size hT w h, ← hl, run_loadCells_mem hm]
  | false =>
    have h1 := (hT t e h).one ha
    rw [h1] at hl
    obtain ⟨g, rfl⟩ := List.length_eq_one_iff.1 hl
    refine ⟨g.val, ?_, g, rfl, rfl⟩
    have hc : w.cell? ⟨b, o, none⟩ = some g.val := hm b o rfl 0 g rfl
    simp [hc]

/-! ### operands -/

theorem lk_mem : ∀ {env : List (Key × TV)} {t c : Nat} {tv : TV}, lk env t c = some tv → ((t, c), tv) ∈ env
  | [], _, _, _, h => by cases h
  | ((t', c'), tv') :: r, t, c, tv, h => by
    simp only [lk] at h
    split at h
    · rename_i ht
      split at h
      · rename_i hc
        cases h
        subst ht hc
        exact List.mem_cons_self
      · exact List.mem_cons_of_mem _ (lk_mem h)
    · exact List.mem_cons_of_mem _ (lk_mem h)

theorem rlk_mem : ∀ {rs : List Root} {k : Key} {R : Root}, rlk rs k = some R → R ∈ rs ∧ R.key = k
  | [], _, _, h => by cases h
  | S :: r, k, R, h => by
    simp only [rlk] at h
    split at h
    · rename_i h1
      split at h
      · rename_i h2
        cases h
        exact ⟨List.mem_cons_self, Prod.ext h1 h2⟩
      · exact ⟨List.mem_cons_of_mem _ (rlk_mem h).1, (rlk_mem h).2⟩
    · exact ⟨List.mem_cons_of_mem _ (rlk_mem h).1, (rlk_mem h).2⟩

section
variable {Z : Nat → Nat → Prop} {w0 : World} {E0 : List Ext} {pins : List Pin} {gr : List GR} {a : Act} {w : World} {st : St}

theorem Rel.root (h : Rel Z w0 E0 pins gr a w st) {k : Key} {R : Root} (hr : rlk st.roots k = some R) : ∃ S, S ∈ gr ∧ S.key = k ∧ R = S.root := by
  obtain ⟨h1, h2⟩ := rlk_mem hr
  rw [h.roots] at h1
  obtain ⟨S, hS, rfl⟩ := List.mem_map.1 h1
  exact ⟨S, hS, h2, rfl⟩

theorem constTV_ok {v : Value} {tv : TV} (h : constTV v = some tv) : TVOk Z w gr v tv := by
  unfold constTV at h
  split at h
  · cases h; exact ⟨[.sc (.int _ _) (.int _ _)], rfl, by simp [GV.fzL, GV.fz], by simp [SatL, Sat, ScOk], ⟨_, rfl, rfl⟩⟩
  · cases h; exact ⟨[.sc (.bool _) (.bool _)], rfl, by simp [GV.fzL, GV.fz], by simp [SatL, Sat, ScOk], ⟨_, rfl, rfl⟩⟩
  · cases h; exact ⟨[.sc (.string _) (.str _)], rfl, by simp [GV.fzL, GV.fz], by simp [SatL, Sat, ScOk], ⟨_, rfl, rfl⟩⟩
  · cases h; rfl
  · cases h

theorem Rel.opv (h : Rel Z w0 E0 pins gr a w st) {x : Operand} {tv : TV} (hx : st.opv x = some tv) : TVOk Z w gr (a.eval x) tv := by
  cases x with
  | tmp t =>
    have := h.env _ (lk_mem hx)
    exact this.2
  | const v => exact constTV_ok hx
  | global g => cases hx
  | func f => cases hx; exact ⟨[], rfl, trivial⟩

theorem Rel.opg (h : Rel Z w0 E0 pins gr a w st) {G : Bool} {x : Operand} {tv : TV} (hx : st.opg G x = some tv) (hG : G = true) : TVOk Z w gr (a.eval x) tv := by
  unfold St.opg at hx
  split at hx
  · rename_i g tv' heq
    have := h.opv heq
    subst hG
    cases g with
    | false => cases hx
    | true => cases hx; exact this.1 rfl
  · exact h.opv hx

theorem Rel.sc (h : Rel Z w0 E0 pins gr a w st) {G : Bool} {x : Operand} {p : PV} (hx : st.sc G x = some p) (hG : G = true) :
    ∃ g : GV, g.abs = p ∧ g.fz ∧ Sat w (OW Z gr) g ∧ a.eval x = g.val := by
  unfold St.sc at hx
  split at hx
  · rename_i q heq
    cases hx
    obtain ⟨gs, h1, h2, h3, g, rfl, h4⟩ := h.opg heq hG
    simp only [GV.absL, List.cons.injEq, and_true] at h1
    simp only [GV.fzL, and_true] at h2
    simp only [SatL, and_true] at h3
    exact ⟨g, h1, h2, h3, h4⟩
  · cases hx

theorem sat_int {O : Nat → Nat → Prop} {g : GV} {k : IntKind} {n : Int} (h : Sat w O g) (ha : g.abs = .int k n) : g.val = .int k n := by
  cases g with
  | sc v p =>
    simp only [GV.abs] at ha
    subst ha
    cases v <;> simp_all [Sat, ScOk, GV.val]
  | sl => simp [GV.abs] at ha

theorem sat_bool {O : Nat → Nat → Prop} {g : GV} {b : Bool} (h : Sat w O g) (ha : g.abs = .bool b) : g.val = .bool b := by
  cases g with
  | sc v p =>
    simp only [GV.abs] at ha
    subst ha
    cases v <;> simp_all [Sat, ScOk, GV.val]
  | sl => simp [GV.abs] at ha

theorem sat_str {O : Nat → Nat → Prop} {g : GV} {s : List UInt8} (h : Sat w O g) (ha : g.abs = .str s) : g.val = .string ⟨s.toArray⟩ := by
  cases g with
  | sc v p =>
    simp only [GV.abs] at ha
    subst ha
    cases v <;> simp_all [Sat, ScOk, GV.val]
    subst h
    rfl
  | sl => simp [GV.abs] at ha

theorem Rel.int (h : Rel Z w0 E0 pins gr a w st) {G : Bool} {x : Operand} {k : IntKind} {n : Int} (hx : st.sc G x = some (.int k n)) (hG : G = true) : a.eval x = .int k n := by
  obtain ⟨g, h1, h2, h3, h4⟩ := h.sc hx hG
  rw [h4, sat_int h3 h1]
theorem Rel.bool (h : Rel Z w0 E0 pins gr a w st) {G : Bool} {x : Operand} {b : Bool} (hx : st.sc G x = some (.bool b)) (hG : G = true) : a.eval x = .bool b := by
  obtain ⟨g, h1, h2, h3, h4⟩ := h.sc hx hG
  rw [h4, sat_bool h3 h1]
theorem Rel.str (h : Rel Z w0 E0 pins gr a w st) {G : Bool} {x : Operand} {s : List UInt8} (hx : st.sc G x = some (.str s)) (hG : G = true) : a.eval x = .string ⟨s.toArray⟩ := by
  obtain ⟨g, h1, h2, h3, h4⟩ := h.sc hx hG
  rw [h4, sat_str h3 h1]

/-- A scalar as a value of the machine. -/
def PV.toV : PV → Value
  | .int k n => .int k n
  | .bool b => .bool b
  | .str s => .string ⟨s.toArray⟩
  | _ => undef

def PV.isSc : PV → Bool
  | .int .. => true
  | .bool _ => true
  | .str _ => true
  | _ => false

theorem tv_sc {p : PV} (hp : p.isSc = true) : TVOk Z w gr p.toV (.val false [p]) := by
  cases p with
  | int k n => exact ⟨[.sc (.int k n) (.int k n)], rfl, by simp [GV.fzL, GV.fz], by simp [SatL, Sat, ScOk], ⟨_, rfl, rfl⟩⟩
  | bool b => exact ⟨[.sc (.bool b) (.bool b)], rfl, by simp [GV.fzL, GV.fz], by simp [SatL, Sat, ScOk], ⟨_, rfl, rfl⟩⟩
  | str s => exact ⟨[.sc (.string ⟨s.toArray⟩) (.str s)], rfl, by simp [GV.fzL, GV.fz], by simp [SatL, Sat, ScOk], ⟨_, rfl, rfl⟩⟩
  | sl => cases hp
  | dead => cases hp

theorem sat_sc {O : Nat → Nat → Prop} {g : GV} (h : Sat w O g) (hp : g.abs.isSc = true) : g.val = g.abs.toV := by
  cases hg : g.abs with
  | int k n => exact sat_int h hg
  | bool b => exact sat_bool h hg
  | str s => exact sat_str h hg
  | sl => rw [hg] at hp; cases hp
  | dead => rw [hg] at hp; cases hp
end

/-! ### arithmetic -/

theorem toList_mk (s : List UInt8) : (⟨s.toArray⟩ : ByteArray).toList = s := by rw [ByteArray.toList_eq]

theorem mk_append (x y : List UInt8) : (⟨x.toArray⟩ : ByteArray) ++ ⟨y.toArray⟩ = ⟨(x ++ y).toArray⟩ := by
  apply ByteArray.ext
  simp

section
variable {P : Program} {w : World}

theorem run_evInt {op : BinOp} {k : IntKind} {x y : Int} {p : PV} (hs : isShift op = false) (h : evInt op k x y = some p) (xt : Nat) :
    (binOp op xt (.int k x) (.int k y)).run P w = .ok p.toV w ∧ p.isSc = true := by
  cases op <;> simp only [evInt, isShift] at h hs <;> first
    | (cases h; done)
    | (cases hs; done)
    | (cases h; exact ⟨by simp [binOp, Op.intArith, Op.intCmp, Op.intBits, PV.toV], rfl⟩)
    | (split at h
       · cases h
       · rename_i hy
         cases h
         exact ⟨by simp [binOp, Op.intDiv, hy, PV.toV], rfl⟩)

theorem run_evShift {op : BinOp} {k k' : IntKind} {x y : Int} {p : PV} (hs : isShift op = true) (h : evShift op k x y = some p) (xt : Nat) :
    (binOp op xt (.int k x) (.int k' y)).run P w = .ok p.toV w ∧ p.isSc = true := by
  unfold evShift at h
  split at h
  · cases h
  · rename_i hy
    cases op <;> simp only [isShift] at h hs <;> first
      | (cases h; done)
      | (cases hs; done)
      | (cases h; exact ⟨by simp [binOp, Op.shift, hy, PV.toV], rfl⟩)

theorem run_evStr {op : BinOp} {x y : List UInt8} {p : PV} (h : evStr op x y = some p) (xt : Nat) :
    (binOp op xt (.string ⟨x.toArray⟩) (.string ⟨y.toArray⟩)).run P w = .ok p.toV w ∧ p.isSc = true := by
  cases op <;> simp only [evStr] at h <;> first
    | (cases h; done)
    | (cases h; exact ⟨by simp [binOp, Op.stringOp, toList_mk, PV.toV], rfl⟩)
    | (split at h
       · rename_i hl
         cases h
         refine ⟨?_, rfl⟩
         have := run_string_add_sum (P := P) (w := w) ⟨x.toArray⟩ ⟨y.toArray⟩ (by simpa [ByteArray.size] using hl)
         simp only [binOp, this, PV.toV, mk_append]
       · cases h)

theorem run_evBool {op : BinOp} {x y : Bool} {p : PV} (h : evBool op x y = some p) (xt : Nat) (hu : P.underlying xt = some .bool) :
    (binOp op xt (.bool x) (.bool y)).run P w = .ok p.toV w ∧ p.isSc = true := by
  cases op <;> simp only [evBool] at h <;> first
    | (cases h; done)
    | (cases h; exact ⟨by rw [PV.toV]; first | exact run_eql_bool w xt x y hu | exact run_neq_bool w xt x y hu, rfl⟩)

theorem run_evBin {T : Tab} (hT : TabOk P T) {op : BinOp} {xt : Nat} {x y p : PV} (h : evBin T op xt x y = some p) :
    (binOp op xt x.toV y.toV).run P w = .ok p.toV w ∧ p.isSc = true := by
  unfold evBin at h
  split at h
  · rename_i k a k' b
    cases hs : isShift op with
    | true => rw [hs] at h; exact run_evShift hs h xt
    | false =>
      rw [hs] at h
      simp only [cond_false] at h
      split at h
      · rename_i hk
        subst hk
        exact run_evInt hs h xt
      · cases h
  · rename_i a b
    cases hs : isShift op with
    | true => rw [hs] at h; cases h
    | false => rw [hs] at h; exact run_evStr h xt
  · split at h
    · rename_i hg
      have := (hT xt _ hg).kind
      exact run_evBool h xt this
    · cases h
  · cases h

theorem run_eqGuard_sc {op : BinOp} {xt : Nat} {x y : Operand} {p q : PV} (hp : p.isSc = true) : (eqGuard op xt x y p.toV q.toV).run P w = .ok () w := by
  cases op <;> first
    | rfl
    | (cases p <;> simp [PV.isSc] at hp <;> (unfold eqGuard; simp [PV.toV]))
end

end Go.Proofs.YtddfcajdelfikaaDoor.Vm
