/- Ghost values, ownership extents, and paths: the ground of the value-level rules. -/
import Derived.Orders
import Derived.Laws.CopyRow
import Derived.Laws.Rows
set_option linter.unusedVariables false
set_option linter.unusedSimpArgs false
namespace Go.Proofs.YtddfcajdelfikaaDoor.Vm
open Go

inductive PV where
  | int (k : IntKind) (n : Int)
  | bool (b : Bool)
  | str (s : List UInt8)
  | sl (own : Bool) (sz n : Nat) (cells : List PV)
  | dead
  deriving Inhabited

inductive GV where
  | sc (v : Value) (p : PV)
  | sl (own : Bool) (sz n cap : Nat) (a : Option (Nat × Nat)) (cells : List GV)

def addrOf (x : Nat × Nat) : Addr := ⟨x.1, x.2, none⟩

def GV.val : GV → Value
  | .sc v _ => v
  | .sl _ _ n cap a _ => .slice (a.map addrOf) n cap

mutual
def GV.abs : GV → PV
  | .sc _ p => p
  | .sl own sz n _ _ cells => .sl own sz n (GV.absL cells)
def GV.absL : List GV → List PV
  | [] => []
  | g :: gs => g.abs :: GV.absL gs
end

open GV (absL)

theorem absL_eq (gs : List GV) : absL gs = gs.map GV.abs := by
  induction gs with
  | nil => rfl
  | cons g gs ih => simp [GV.absL, ih]

@[simp] theorem absL_length (gs : List GV) : (absL gs).length = gs.length := by simp [absL_eq]
theorem absL_append (xs ys : List GV) : absL (xs ++ ys) = absL xs ++ absL ys := by simp [absL_eq]
theorem absL_take (n : Nat) (xs : List GV) : absL (xs.take n) = (absL xs).take n := by simp [absL_eq]
theorem absL_drop (n : Nat) (xs : List GV) : absL (xs.drop n) = (absL xs).drop n := by simp [absL_eq]
theorem absL_getElem? (xs : List GV) (i : Nat) : (absL xs)[i]? = (xs[i]?).map GV.abs := by simp [absL_eq]

/-! ### extents -/

inductive Ext where
  | blk (b : Nat)
  | reg (b o n : Nat)

def Ext.has : Ext → Nat → Nat → Prop
  | .blk b, b', _ => b' = b
  | .reg b o n, b', o' => b' = b ∧ o ≤ o' ∧ o' < o + n

def Ext.dj (e f : Ext) : Prop := ∀ b o, e.has b o → f.has b o → False

theorem Ext.dj_symm {e f : Ext} (h : e.dj f) : f.dj e := fun b o h1 h2 => h b o h2 h1

def inE (E : List Ext) (b o : Nat) : Prop := ∃ e, e ∈ E ∧ e.has b o

theorem inE_append {E F : List Ext} {b o : Nat} : inE (E ++ F) b o ↔ inE E b o ∨ inE F b o := by
  constructor
  · rintro ⟨e, he, h⟩
    rcases List.mem_append.1 he with h1 | h1
    · exact .inl ⟨e, h1, h⟩
    · exact .inr ⟨e, h1, h⟩
  · rintro (⟨e, he, h⟩ | ⟨e, he, h⟩)
    · exact ⟨e, List.mem_append.2 (.inl he), h⟩
    · exact ⟨e, List.mem_append.2 (.inr he), h⟩

theorem not_inE_nil {b o : Nat} : ¬ inE [] b o := by rintro ⟨e, he, _⟩; cases he

theorem inE_one {e : Ext} {b o : Nat} : inE [e] b o ↔ e.has b o := by
  constructor
  · rintro ⟨f, hf, h⟩; simp at hf; subst hf; exact h
  · exact fun h => ⟨e, by simp, h⟩

/-- All extents of a list are apart, pairwise. -/
def Apart (E : List Ext) : Prop := E.Pairwise Ext.dj

theorem Apart.append {E F : List Ext} : Apart (E ++ F) ↔ Apart E ∧ Apart F ∧ ∀ b o, inE E b o → inE F b o → False := by
  unfold Apart
  rw [List.pairwise_append]
  constructor
  · rintro ⟨h1, h2, h3⟩
    refine ⟨h1, h2, ?_⟩
    rintro b o ⟨e, he, h⟩ ⟨f, hf, h'⟩
    exact h3 e he f hf b o h h'
  · rintro ⟨h1, h2, h3⟩
    exact ⟨h1, h2, fun e he f hf b o h h' => h3 b o ⟨e, he, h⟩ ⟨f, hf, h'⟩⟩

theorem Apart.perm {E F : List Ext} (h : Apart E) (hp : E.Perm F) : Apart F :=
  List.Perm.pairwise hp h (fun h => Ext.dj_symm h)

theorem inE_perm {E F : List Ext} (hp : E.Perm F) {b o : Nat} : inE E b o ↔ inE F b o := by
  constructor
  · rintro ⟨e, he, h⟩; exact ⟨e, hp.mem_iff.1 he, h⟩
  · rintro ⟨e, he, h⟩; exact ⟨e, hp.mem_iff.2 he, h⟩

def ownExt (own : Bool) (a : Option (Nat × Nat)) : List Ext :=
  match own, a with
  | true, some (b, _) => [.blk b]
  | _, _ => []

mutual
def GV.exts : GV → List Ext
  | .sc _ _ => []
  | .sl own _ _ _ a cells => ownExt own a ++ GV.extsL cells
def GV.extsL : List GV → List Ext
  | [] => []
  | g :: gs => g.exts ++ GV.extsL gs
end
open GV (extsL)

theorem extsL_append (xs ys : List GV) : extsL (xs ++ ys) = extsL xs ++ extsL ys := by
  induction xs with
  | nil => rfl
  | cons g gs ih => simp [GV.extsL, ih]

theorem inE_extsL {gs : List GV} {b o : Nat} : inE (extsL gs) b o ↔ ∃ g, g ∈ gs ∧ inE g.exts b o := by
  induction gs with
  | nil => simp [GV.extsL, not_inE_nil]
  | cons g gs ih => simp [GV.extsL, inE_append, ih]

/-! ### the world -/

def at_ (w : World) (b o : Nat) : Option Value := w.cell? ⟨b, o, none⟩

/-- A row of cells, at least so long, none of which is frozen by the model. -/
def Blk (w : World) (b m : Nat) : Prop :=
  ∃ c e fr, w.heap[b]? = some (.cells c e fr) ∧ m ≤ c.size ∧ ∀ j, j < c.size → ¬ (fr.1 ≤ j ∧ j < fr.2)

theorem Blk.le {w : World} {b m k : Nat} (h : Blk w b m) (hk : k ≤ m) : Blk w b k := by
  obtain ⟨c, e, fr, h1, h2, h3⟩ := h
  exact ⟨c, e, fr, h1, by omega, h3⟩

theorem Blk.lt {w : World} {b m : Nat} (h : Blk w b m) : b < w.heap.size := by
  obtain ⟨c, e, fr, h1, _⟩ := h
  exact (Array.getElem?_eq_some_iff.1 h1).1

theorem at_lt {w : World} {b o : Nat} {v : Value} (h : at_ w b o = some v) : b < w.heap.size :=
  block_lt_of_cell (a := ⟨b, o, none⟩) h

/-- From w to w' only the cells in X have changed, and blocks have come. -/
structure Evo (w w' : World) (X : Nat → Nat → Prop) : Prop where
  os : w'.os = w.os
  tape : w'.tape = w.tape
  output : w'.output = w.output
  size : w.heap.size ≤ w'.heap.size
  cell : ∀ b o, b < w.heap.size → ¬ X b o → at_ w' b o = at_ w b o
  obj : ∀ b, b < w.heap.size → (∀ o, ¬ X b o) → w'.heap[b]? = w.heap[b]?
  blk : ∀ b m, Blk w b m → Blk w' b m

theorem Evo.refl (w : World) (X : Nat → Nat → Prop) : Evo w w X :=
  ⟨rfl, rfl, rfl, Nat.le_refl _, fun _ _ _ _ => rfl, fun _ _ _ => rfl, fun _ _ h => h⟩

theorem Evo.trans {w w1 w2 : World} {X Y Z : Nat → Nat → Prop} (h1 : Evo w w1 X) (h2 : Evo w1 w2 Y)
    (hx : ∀ b o, b < w.heap.size → X b o → Z b o) (hy : ∀ b o, b < w.heap.size → Y b o → Z b o) : Evo w w2 Z where
  os := h2.os.trans h1.os
  tape := h2.tape.trans h1.tape
  output := h2.output.trans h1.output
  size := Nat.le_trans h1.size h2.size
  cell b o hb hz := (h2.cell b o (Nat.lt_of_lt_of_le hb h1.size) fun h => hz (hy b o hb h)).trans (h1.cell b o hb fun h => hz (hx b o hb h))
  obj b hb hz := (h2.obj b (Nat.lt_of_lt_of_le hb h1.size) fun o h => hz o (hy b o hb h)).trans (h1.obj b hb fun o h => hz o (hx b o hb h))
  blk b m h := h2.blk b m (h1.blk b m h)

theorem Evo.mono {w w' : World} {X Y : Nat → Nat → Prop} (h : Evo w w' X) (hy : ∀ b o, b < w.heap.size → X b o → Y b o) : Evo w w' Y :=
  (Evo.refl w X).trans h (fun b o hb h => hy b o hb h) (fun b o hb h => hy b o hb h)

def ScOk : Value → PV → Prop
  | .int k n, .int k' n' => k = k' ∧ n = n'
  | .bool b, .bool b' => b = b'
  | .string s, .str l => s.data.toList = l
  | v, .dead => v.oneCell' = true
  | _, _ => False

mutual
def GV.fz : GV → Prop
  | .sc _ _ => True
  | .sl own _ _ _ _ cells => own = false ∧ GV.fzL cells
def GV.fzL : List GV → Prop
  | [] => True
  | g :: gs => g.fz ∧ GV.fzL gs
end
open GV (fzL)

theorem fzL_iff {gs : List GV} : fzL gs ↔ ∀ g, g ∈ gs → g.fz := by
  induction gs with
  | nil => simp [GV.fzL]
  | cons g gs ih => simp [GV.fzL, ih]

/-- Cells of memory from an address on hold the values of ghosts. -/
def Mem (w : World) (base : Option (Nat × Nat)) (gs : List GV) : Prop :=
  ∀ b o, base = some (b, o) → ∀ i g, gs[i]? = some g → at_ w b (o + i) = some g.val

mutual
def Sat (w : World) (O : Nat → Nat → Prop) : GV → Prop
  | .sc v p => ScOk v p
  | .sl own sz n cap a cells =>
    cells.length = n * sz ∧ n ≤ cap ∧ (a = none → n = 0 ∧ cap = 0) ∧
    Mem w a cells ∧
    (∀ b o, a = some (b, o) → (own = true → Blk w b (o + cap * sz)) ∧ (own = false → ∀ i, i < cells.length → ¬ O b (o + i))) ∧
    (own = false → GV.fzL cells) ∧ SatL w O cells
def SatL (w : World) (O : Nat → Nat → Prop) : List GV → Prop
  | [] => True
  | g :: gs => Sat w O g ∧ SatL w O gs
end

theorem SatL_iff {w : World} {O : Nat → Nat → Prop} {gs : List GV} : SatL w O gs ↔ ∀ g, g ∈ gs → Sat w O g := by
  induction gs with
  | nil => simp [SatL]
  | cons g gs ih => simp [SatL, ih]

theorem SatL_append {w : World} {O : Nat → Nat → Prop} {xs ys : List GV} : SatL w O (xs ++ ys) ↔ SatL w O xs ∧ SatL w O ys := by
  simp only [SatL_iff, List.mem_append]
  constructor
  · exact fun h => ⟨fun g hg => h g (.inl hg), fun g hg => h g (.inr hg)⟩
  · rintro ⟨h1, h2⟩ g (h | h)
    · exact h1 g h
    · exact h2 g h

theorem SatL.get {w : World} {O : Nat → Nat → Prop} {gs : List GV} (h : SatL w O gs) {i : Nat} {g : GV} (hi : gs[i]? = some g) : Sat w O g :=
  SatL_iff.1 h g (List.mem_of_getElem? hi)

theorem GV.val_one {w : World} {O : Nat → Nat → Prop} {g : GV} (h : Sat w O g) : g.val.oneCell' = true := by
  cases g with
  | sc v p =>
    simp only [Sat] at h
    simp only [GV.val]
    cases v <;> cases p <;> simp_all [ScOk, Value.oneCell']
  | sl own sz n cap a cells => rfl

mutual
theorem GV.exts_fz : ∀ {g : GV}, g.fz → g.exts = []
  | .sc _ _, _ => rfl
  | .sl own sz n cap a cells, h => by
    simp only [GV.fz] at h
    obtain ⟨h1, h2⟩ := h
    subst h1
    simp [GV.exts, ownExt, GV.extsL_fz h2]
theorem GV.extsL_fz : ∀ {gs : List GV}, GV.fzL gs → GV.extsL gs = []
  | [], _ => rfl
  | g :: gs, h => by
    simp only [GV.fzL] at h
    simp [GV.extsL, GV.exts_fz h.1, GV.extsL_fz h.2]
end

/-! ### freezing -/

mutual
def PV.frz : PV → PV
  | .sl _ sz n cells => .sl false sz n (PV.frzL cells)
  | p => p
def PV.frzL : List PV → List PV
  | [] => []
  | p :: ps => p.frz :: PV.frzL ps
end
open PV (frzL)

theorem frzL_eq (ps : List PV) : frzL ps = ps.map PV.frz := by
  induction ps with
  | nil => rfl
  | cons p ps ih => simp [PV.frzL, ih]

mutual
def GV.frz : GV → GV
  | .sl _ sz n cap a cells => .sl false sz n cap a (GV.frzL cells)
  | g => g
def GV.frzL : List GV → List GV
  | [] => []
  | g :: gs => g.frz :: GV.frzL gs
end

theorem gfrzL_eq (gs : List GV) : GV.frzL gs = gs.map GV.frz := by
  induction gs with
  | nil => rfl
  | cons g gs ih => simp [GV.frzL, ih]

theorem GV.val_frz (g : GV) : g.frz.val = g.val := by cases g <;> simp [GV.frz, GV.val]

mutual
theorem GV.abs_frz {w : World} {O : Nat → Nat → Prop} : ∀ (g : GV), Sat w O g → g.frz.abs = g.abs.frz
  | .sc v p, h => by
    simp only [Sat] at h
    cases v <;> cases p <;> simp_all [ScOk, GV.frz, GV.abs, PV.frz]
  | .sl own sz n cap a cells, h => by
    simp only [Sat] at h
    simp [GV.frz, GV.abs, PV.frz, GV.absL_frz cells h.2.2.2.2.2.2]
theorem GV.absL_frz {w : World} {O : Nat → Nat → Prop} : ∀ (gs : List GV), SatL w O gs → GV.absL (GV.frzL gs) = PV.frzL (GV.absL gs)
  | [], _ => rfl
  | g :: gs, h => by
    simp only [SatL] at h
    simp [GV.frzL, GV.absL, PV.frzL, GV.abs_frz g h.1, GV.absL_frz gs h.2]
end

mutual
theorem GV.fz_frz : ∀ (g : GV), g.frz.fz
  | .sc v p => by simp [GV.frz, GV.fz]
  | .sl own sz n cap a cells => by simp [GV.frz, GV.fz, GV.fzL_frz cells]
theorem GV.fzL_frz : ∀ (gs : List GV), GV.fzL (GV.frzL gs)
  | [] => trivial
  | g :: gs => ⟨GV.fz_frz g, GV.fzL_frz gs⟩
end

theorem gfrzL_length (gs : List GV) : (GV.frzL gs).length = gs.length := by simp [gfrzL_eq]

theorem Mem_frz {w : World} {base : Option (Nat × Nat)} {gs : List GV} (h : Mem w base gs) : Mem w base (GV.frzL gs) := by
  intro b o hb i g hg
  rw [gfrzL_eq, List.getElem?_map] at hg
  cases hi : gs[i]? with
  | none => simp [hi] at hg
  | some g' =>
    simp [hi] at hg
    subst hg
    rw [GV.val_frz]
    exact h b o hb i g' hi

mutual
theorem Sat_frz {w : World} {O O2 : Nat → Nat → Prop} (hO : ∀ b o, O2 b o → O b o) : ∀ (g : GV), Sat w O g → (∀ b o, inE g.exts b o → ¬ O2 b o) → Sat w O2 g.frz
  | .sc v p, h, _ => by simpa only [Sat, GV.frz] using h
  | .sl own sz n cap a cells, h, hE => by
    simp only [Sat] at h
    obtain ⟨h1, h2, h3, h4, h5, h6, h7⟩ := h
    simp only [GV.frz, Sat]
    refine ⟨by simp [gfrzL_length, h1], h2, h3, Mem_frz h4, ?_, fun _ => GV.fzL_frz cells, SatL_frz hO cells h7 fun b o he => hE b o (by simp only [GV.exts]; exact inE_append.2 (.inr he))⟩
    intro b o ha
    refine ⟨fun h => absurd h (by decide), fun _ i hi => ?_⟩
    rw [gfrzL_length] at hi
    cases own with
    | true => exact hE b _ (by subst ha; simp only [GV.exts, ownExt]; exact inE_append.2 (.inl (inE_one.2 rfl)))
    | false => exact fun hx => (h5 b o ha).2 rfl i hi (hO _ _ hx)
theorem SatL_frz {w : World} {O O2 : Nat → Nat → Prop} (hO : ∀ b o, O2 b o → O b o) : ∀ (gs : List GV), SatL w O gs → (∀ b o, inE (GV.extsL gs) b o → ¬ O2 b o) → SatL w O2 (GV.frzL gs)
  | [], _, _ => trivial
  | g :: gs, h, hE => by
    simp only [SatL] at h
    simp only [GV.frzL, SatL]
    exact ⟨Sat_frz hO g h.1 fun b o he => hE b o (by simp only [GV.extsL]; exact inE_append.2 (.inl he)), SatL_frz hO gs h.2 fun b o he => hE b o (by simp only [GV.extsL]; exact inE_append.2 (.inr he))⟩
end

/-! ### what stays through a change of the world -/

mutual
theorem Sat_evo {w w' : World} {O O' X : Nat → Nat → Prop} (hE : Evo w w' X) (hX : ∀ b o, X b o → O b o) (hO' : ∀ b o, O' b o → b < w.heap.size → O b o) :
    ∀ (g : GV), Sat w O g → (∀ b o, inE g.exts b o → ¬ X b o) → Sat w' O' g
  | .sc v p, h, _ => by simpa only [Sat] using h
  | .sl own sz n cap a cells, h, hN => by
    simp only [Sat] at h ⊢
    obtain ⟨h1, h2, h3, h4, h5, h6, h7⟩ := h
    refine ⟨h1, h2, h3, ?_, ?_, h6, SatL_evo hE hX hO' cells h7 fun b o he => hN b o (by simp only [GV.exts]; exact inE_append.2 (.inr he))⟩
    · intro b o hb i g hg
      have hc := h4 b o hb i g hg
      have hi : i < cells.length := (List.getElem?_eq_some_iff.1 hg).1
      rw [hE.cell b (o + i) (at_lt hc) ?_]
      · exact hc
      · cases own with
        | true => exact hN b _ (by subst hb; simp only [GV.exts, ownExt]; exact inE_append.2 (.inl (inE_one.2 rfl)))
        | false => exact fun hx => (h5 b o hb).2 rfl i hi (hX _ _ hx)
    · intro b o ha
      refine ⟨fun hown => hE.blk _ _ ((h5 b o ha).1 hown), fun hown i hi hx => ?_⟩
      have hc : ∃ g, cells[i]? = some g := ⟨cells[i], by simp [hi]⟩
      obtain ⟨g, hg⟩ := hc
      exact (h5 b o ha).2 hown i hi (hO' b _ hx (at_lt (h4 b o ha i g hg)))
theorem SatL_evo {w w' : World} {O O' X : Nat → Nat → Prop} (hE : Evo w w' X) (hX : ∀ b o, X b o → O b o) (hO' : ∀ b o, O' b o → b < w.heap.size → O b o) :
    ∀ (gs : List GV), SatL w O gs → (∀ b o, inE (GV.extsL gs) b o → ¬ X b o) → SatL w' O' gs
  | [], _, _ => trivial
  | g :: gs, h, hN => by
    simp only [SatL] at h ⊢
    exact ⟨Sat_evo hE hX hO' g h.1 fun b o he => hN b o (by simp only [GV.extsL]; exact inE_append.2 (.inl he)), SatL_evo hE hX hO' gs h.2 fun b o he => hN b o (by simp only [GV.extsL]; exact inE_append.2 (.inr he))⟩
end

theorem Mem_evo {w w' : World} {X : Nat → Nat → Prop} (hE : Evo w w' X) {base : Option (Nat × Nat)} {gs : List GV} (h : Mem w base gs)
    (hN : ∀ b o, base = some (b, o) → ∀ i, i < gs.length → ¬ X b (o + i)) : Mem w' base gs := by
  intro b o hb i g hg
  have hc := h b o hb i g hg
  rw [hE.cell b (o + i) (at_lt hc) (hN b o hb i (List.getElem?_eq_some_iff.1 hg).1)]
  exact hc

/-! ### paths -/

def getP : List Nat → List PV → Nat → Option (List PV)
  | [], _, _ => none
  | [o], row, n => if o + n ≤ row.length then some ((row.drop o).take n) else none
  | o :: o' :: p, row, n => match row[o]? with
    | some (.sl _ _ _ cells) => getP (o' :: p) cells n
    | _ => none

def getG : List Nat → List GV → Nat → Option (List GV)
  | [], _, _ => none
  | [o], row, n => if o + n ≤ row.length then some ((row.drop o).take n) else none
  | o :: o' :: p, row, n => match row[o]? with
    | some (.sl _ _ _ _ _ cells) => getG (o' :: p) cells n
    | _ => none

def setP : List Nat → List PV → List PV → Option (List PV)
  | [], _, _ => none
  | [o], row, new => if o + new.length ≤ row.length then some (row.take o ++ new ++ row.drop (o + new.length)) else none
  | o :: o' :: p, row, new => match row[o]? with
    | some (.sl true sz n cells) => (setP (o' :: p) cells new).map fun c => row.set o (.sl true sz n c)
    | _ => none

def setG : List Nat → List GV → List GV → Option (List GV)
  | [], _, _ => none
  | [o], row, new => if o + new.length ≤ row.length then some (row.take o ++ new ++ row.drop (o + new.length)) else none
  | o :: o' :: p, row, new => match row[o]? with
    | some (.sl true sz n cap a cells) => (setG (o' :: p) cells new).map fun c => row.set o (.sl true sz n cap a c)
    | _ => none

def addrG : List Nat → Option (Nat × Nat) → List GV → Option (Nat × Nat)
  | [], _, _ => none
  | [o], base, _ => base.map fun x => (x.1, x.2 + o)
  | o :: o' :: p, _, row => match row[o]? with
    | some (.sl _ _ _ _ a cells) => addrG (o' :: p) a cells
    | _ => none

/-- No cell is a scalar ghost that claims to be a slice. -/
def GV.ok : GV → Prop
  | .sc _ (.sl ..) => False
  | _ => True

theorem GV.ok_of_sat {w : World} {O : Nat → Nat → Prop} {g : GV} (h : Sat w O g) : g.ok := by
  cases g with
  | sc v p => cases v <;> cases p <;> simp_all [Sat, ScOk, GV.ok]
  | sl => trivial

theorem getP_absL : ∀ (p : List Nat) (row : List GV) (n : Nat) {w : World} {O : Nat → Nat → Prop}, SatL w O row → getP p (absL row) n = (getG p row n).map absL
  | [], _, _, _, _, _ => rfl
  | [o], row, n, _, _, _ => by
    simp only [getP, getG, absL_length]
    split <;> simp [absL_take, absL_drop]
  | o :: o' :: p, row, n, w, O, h => by
    simp only [getP, getG, absL_getElem?]
    cases hg : row[o]? with
    | none => rfl
    | some g =>
      have hs := h.get hg
      cases g with
      | sc v q => cases v <;> cases q <;> simp_all [Sat, ScOk, GV.abs]
      | sl own sz m cap a cells =>
        simp only [Sat] at hs
        simp only [Option.map_some, GV.abs]
        exact getP_absL (o' :: p) cells n hs.2.2.2.2.2.2

theorem setP_absL : ∀ (p : List Nat) (row new : List GV) {w : World} {O : Nat → Nat → Prop}, SatL w O row → setP p (absL row) (absL new) = (setG p row new).map absL
  | [], _, _, _, _, _ => rfl
  | [o], row, new, _, _, _ => by
    simp only [setP, setG, absL_length]
    split <;> simp [absL_take, absL_drop, absL_append]
  | o :: o' :: p, row, new, w, O, h => by
    simp only [setP, setG, absL_getElem?]
    cases hg : row[o]? with
    | none => rfl
    | some g =>
      have hs := h.get hg
      cases g with
      | sc v q => cases v <;> cases q <;> simp_all [Sat, ScOk, GV.abs]
      | sl own sz m cap a cells =>
        simp only [Sat] at hs
        simp only [Option.map_some, GV.abs]
        cases own with
        | false => rfl
        | true =>
          simp only []
          rw [setP_absL (o' :: p) cells new hs.2.2.2.2.2.2]
          cases setG (o' :: p) cells new with
          | none => rfl
          | some c => simp [absL_eq, GV.abs, List.map_set]

theorem getG_length : ∀ {p : List Nat} {row gs : List GV} {n : Nat}, getG p row n = some gs → gs.length = n
  | [], _, _, _, h => by cases h
  | [o], row, gs, n, h => by
    simp only [getG] at h
    split at h
    · cases h; simp; omega
    · cases h
  | o :: o' :: p, row, gs, n, h => by
    simp only [getG] at h
    split at h
    · exact getG_length h
    · cases h

theorem getG_sat {w : World} {O : Nat → Nat → Prop} : ∀ {p : List Nat} {row gs : List GV} {n : Nat}, SatL w O row → getG p row n = some gs → SatL w O gs
  | [], _, _, _, _, h => by cases h
  | [o], row, gs, n, hs, h => by
    simp only [getG] at h
    split at h
    · cases h
      exact SatL_iff.2 fun g hg => SatL_iff.1 hs g (List.mem_of_mem_drop (List.mem_of_mem_take hg))
    · cases h
  | o :: o' :: p, row, gs, n, hs, h => by
    simp only [getG] at h
    split at h
    · rename_i own sz m cap a cells hg
      have := hs.get hg
      simp only [Sat] at this
      exact getG_sat this.2.2.2.2.2.2 h
    · cases h

theorem getG_mem {w : World} {O : Nat → Nat → Prop} : ∀ {p : List Nat} {row gs : List GV} {n : Nat} {base : Option (Nat × Nat)} {b o : Nat},
    SatL w O row → Mem w base row → getG p row n = some gs → addrG p base row = some (b, o) → Mem w (some (b, o)) gs
  | [], _, _, _, _, _, _, _, _, h, _ => by cases h
  | [o0], row, gs, n, base, b, o, hs, hm, h, ha => by
    simp only [getG] at h
    simp only [addrG] at ha
    split at h
    · cases h
      cases base with
      | none => cases ha
      | some x =>
        obtain ⟨b0, ob⟩ := x
        simp only [Option.map_some, Option.some.injEq, Prod.mk.injEq] at ha
        obtain ⟨rfl, rfl⟩ := ha
        intro b1 o1 hb i g hg
        cases hb
        rw [List.getElem?_take] at hg
        split at hg
        · rw [List.getElem?_drop] at hg
          have := hm _ _ rfl _ _ hg
          rwa [← Nat.add_assoc] at this
        · cases hg
    · cases h
  | o0 :: o' :: p, row, gs, n, base, b, o, hs, hm, h, ha => by
    simp only [getG] at h
    simp only [addrG] at ha
    split at h
    · rename_i own sz m cap a cells hg
      simp only [hg] at ha
      have hsat := hs.get hg
      simp only [Sat] at hsat
      exact getG_mem hsat.2.2.2.2.2.2 hsat.2.2.2.1 h ha
    · cases h

theorem extsL_split (row : List GV) (o n : Nat) : extsL row = extsL (row.take o) ++ extsL ((row.drop o).take n) ++ extsL (row.drop (o + n)) := by
  rw [← extsL_append, ← extsL_append]
  congr 1
  have : row.drop (o + n) = (row.drop o).drop n := by rw [List.drop_drop]
  rw [this, List.append_assoc, List.take_append_drop, List.take_append_drop]

theorem extsL_set {row : List GV} {o : Nat} {g : GV} (h : row[o]? = some g) (g' : GV) :
    ∃ A B, extsL row = A ++ g.exts ++ B ∧ extsL (row.set o g') = A ++ g'.exts ++ B := by
  obtain ⟨ho, hg⟩ := List.getElem?_eq_some_iff.1 h
  refine ⟨extsL (row.take o), extsL (row.drop (o + 1)), ?_, ?_⟩
  · conv => lhs; rw [← List.take_append_drop o row, List.drop_eq_getElem_cons ho, hg]
    rw [extsL_append]
    simp [GV.extsL, List.append_assoc]
  · rw [List.set_eq_take_append_cons_drop, if_pos ho, extsL_append]
    simp [GV.extsL, List.append_assoc]

/-- The hole at a path: the extents around it stay. -/
theorem setG_exts : ∀ {p : List Nat} {row old new row' : List GV}, getG p row new.length = some old → setG p row new = some row' →
    ∃ A B, extsL row = A ++ extsL old ++ B ∧ extsL row' = A ++ extsL new ++ B
  | [], _, _, _, _, h, _ => by cases h
  | [o], row, old, new, row', h, h' => by
    simp only [getG] at h
    simp only [setG] at h'
    split at h
    · rename_i hl
      rw [if_pos hl] at h'
      cases h
      cases h'
      exact ⟨extsL (row.take o), extsL (row.drop (o + new.length)), extsL_split row o new.length, by rw [extsL_append, extsL_append]⟩
    · cases h
  | o :: o' :: p, row, old, new, row', h, h' => by
    simp only [getG] at h
    simp only [setG] at h'
    split at h
    · rename_i own sz m cap a cells hg
      simp only [hg] at h'
      cases own with
      | false => cases h'
      | true =>
        simp only [Option.map_eq_some_iff] at h'
        obtain ⟨c, hc, rfl⟩ := h'
        obtain ⟨A, B, e1, e2⟩ := setG_exts h hc
        obtain ⟨A', B', f1, f2⟩ := extsL_set hg (.sl true sz m cap a c)
        refine ⟨A' ++ ownExt true a ++ A, B ++ B', ?_, ?_⟩
        · rw [f1]; simp only [GV.exts, e1, List.append_assoc]
        · rw [f2]; simp only [GV.exts, e2, List.append_assoc]
    · cases h

theorem setG_length : ∀ {p : List Nat} {row new row' : List GV}, setG p row new = some row' → row'.length = row.length
  | [], _, _, _, h => by cases h
  | [o], row, new, row', h => by
    simp only [setG] at h
    split at h
    · cases h; simp; omega
    · cases h
  | o :: o' :: p, row, new, row', h => by
    simp only [setG] at h
    split at h
    · simp only [Option.map_eq_some_iff] at h
      obtain ⟨c, _, rfl⟩ := h
      simp
    · cases h

/-- A set goes wherever a get of the same length goes through owned slices. -/
theorem getG_of_setG : ∀ {p : List Nat} {row new row' : List GV}, setG p row new = some row' → ∃ old, getG p row new.length = some old
  | [], _, _, _, h => by cases h
  | [o], row, new, row', h => by
    simp only [setG] at h
    split at h
    · rename_i hl; exact ⟨_, by simp only [getG]; rw [if_pos hl]⟩
    · cases h
  | o :: o' :: p, row, new, row', h => by
    simp only [setG] at h
    split at h
    · rename_i sz m cap a cells hg
      simp only [Option.map_eq_some_iff] at h
      obtain ⟨c, hc, _⟩ := h
      obtain ⟨old, ho⟩ := getG_of_setG hc
      exact ⟨old, by simp only [getG, hg]; exact ho⟩
    · cases h

/-- What a path tells lies within the extents. -/
theorem addrG_inE {w : World} {O : Nat → Nat → Prop} : ∀ {p : List Nat} {row new row' : List GV} {base : Option (Nat × Nat)} {Bs : List Ext} {b o : Nat},
    SatL w O row → (∀ b o, base = some (b, o) → ∀ i, i < row.length → inE Bs b (o + i)) → setG p row new = some row' → addrG p base row = some (b, o) →
    ∀ j, j < new.length → inE (Bs ++ extsL row) b (o + j)
  | [], _, _, _, _, _, _, _, _, _, h, _, _, _ => by cases h
  | [o0], row, new, row', base, Bs, b, o, hs, hB, h, ha, j, hj => by
    simp only [setG] at h
    simp only [addrG] at ha
    split at h
    · cases base with
      | none => cases ha
      | some x =>
        obtain ⟨b0, ob⟩ := x
        simp only [Option.map_some, Option.some.injEq, Prod.mk.injEq] at ha
        obtain ⟨rfl, rfl⟩ := ha
        refine inE_append.2 (.inl ?_)
        have := hB _ _ rfl (o0 + j) (by omega)
        rwa [← Nat.add_assoc] at this
    · cases h
  | o0 :: o' :: p, row, new, row', base, Bs, b, o, hs, hB, h, ha, j, hj => by
    simp only [setG] at h
    simp only [addrG] at ha
    split at h
    · rename_i sz m cap a cells hg
      simp only [hg] at ha
      simp only [Option.map_eq_some_iff] at h
      obtain ⟨c, hc, _⟩ := h
      have hsat := hs.get hg
      simp only [Sat] at hsat
      have := addrG_inE (Bs := ownExt true a) hsat.2.2.2.2.2.2 (fun b o hb i hi => by subst hb; exact inE_one.2 rfl) hc ha j hj
      exact inE_append.2 (.inr (inE_extsL.2 ⟨_, List.mem_of_getElem? hg, by simp only [GV.exts]; exact this⟩))
    · cases h

theorem Mem_write {w w' : World} {X : Nat → Nat → Prop} (hE : Evo w w' X) {base : Option (Nat × Nat)} {row new : List GV} {o : Nat} (hl : o + new.length ≤ row.length)
    (hm : Mem w base row) (hX : ∀ b ob, base = some (b, ob) → ∀ i, i < row.length → X b (ob + i) → o ≤ i ∧ i < o + new.length)
    (hnew : ∀ b ob, base = some (b, ob) → Mem w' (some (b, ob + o)) new) : Mem w' base (row.take o ++ new ++ row.drop (o + new.length)) := by
  intro b ob hb i g hg
  by_cases h1 : i < o
  · rw [List.append_assoc, List.getElem?_append_left (by simp; omega), List.getElem?_take, if_pos h1] at hg
    have hc := hm b ob hb i g hg
    rw [hE.cell b _ (at_lt hc) (fun hx => by have := hX b ob hb i (List.getElem?_eq_some_iff.1 hg).1 hx; omega)]
    exact hc
  · by_cases h2 : i < o + new.length
    · rw [List.append_assoc, List.getElem?_append_right (by simp; omega), List.getElem?_append_left (by simp; omega)] at hg
      have : (row.take o).length = o := by simp; omega
      rw [this] at hg
      have := hnew b ob hb _ _ rfl (i - o) g hg
      rwa [Nat.add_assoc, Nat.add_sub_cancel' (by omega)] at this
    · rw [List.getElem?_append_right (by simp; omega), List.getElem?_drop] at hg
      have hl' : (row.take o ++ new).length = o + new.length := by simp; omega
      rw [hl', Nat.add_sub_cancel' (by omega)] at hg
      have hc := hm b ob hb i g hg
      rw [hE.cell b _ (at_lt hc) (fun hx => by have := hX b ob hb i (List.getElem?_eq_some_iff.1 hg).1 hx; omega)]
      exact hc

/-- A write at a path, seen from the row. -/
theorem write_row {w w' : World} {O O' : Nat → Nat → Prop} (hO' : ∀ b o, O' b o → b < w.heap.size → O b o) : ∀ {p : List Nat} {row new row' : List GV} {base : Option (Nat × Nat)} {Bs : List Ext} {b o : Nat},
    SatL w O row → Mem w base row → setG p row new = some row' → addrG p base row = some (b, o) →
    Evo w w' (fun b' o' => b' = b ∧ o ≤ o' ∧ o' < o + new.length) → Mem w' (some (b, o)) new → SatL w' O' new →
    (∀ b o, base = some (b, o) → ∀ i, i < row.length → inE Bs b (o + i)) → Apart (Bs ++ extsL row) → (∀ b o, inE (Bs ++ extsL row) b o → O b o) →
    SatL w' O' row' ∧ Mem w' base row'
  | [], _, _, _, _, _, _, _, _, _, h, _, _, _, _, _, _, _ => by cases h
  | [o0], row, new, row', base, Bs, b, o, hs, hm, h, ha, hE, hn, hsn, hB, hap, hO => by
    have hin := addrG_inE hs hB h ha
    simp only [setG] at h
    simp only [addrG] at ha
    split at h
    · rename_i hl
      cases h
      cases base with
      | none => cases ha
      | some x =>
        obtain ⟨b0, ob⟩ := x
        simp only [Option.map_some, Option.some.injEq, Prod.mk.injEq] at ha
        obtain ⟨rfl, rfl⟩ := ha
        have hXB : ∀ b' o', (b' = b0 ∧ ob + o0 ≤ o' ∧ o' < ob + o0 + new.length) → inE Bs b' o' := by
          rintro b' o' ⟨rfl, h1, h2⟩
          have := hB _ _ rfl (o' - ob) (by omega)
          rwa [Nat.add_sub_cancel' (by omega)] at this
        have hap' := Apart.append.1 hap
        have hX : ∀ b' o', (b' = b0 ∧ ob + o0 ≤ o' ∧ o' < ob + o0 + new.length) → O b' o' := fun b' o' hx => hO b' o' (inE_append.2 (.inl (hXB b' o' hx)))
        have hrow : SatL w' O' row := SatL_evo hE hX hO' row hs fun b' o' he hx => hap'.2.2 b' o' (hXB b' o' hx) he
        refine ⟨?_, ?_⟩
        · refine SatL_append.2 ⟨SatL_append.2 ⟨?_, hsn⟩, ?_⟩
          · exact SatL_iff.2 fun g hg => SatL_iff.1 hrow g (List.mem_of_mem_take hg)
          · exact SatL_iff.2 fun g hg => SatL_iff.1 hrow g (List.mem_of_mem_drop hg)
        · refine Mem_write hE hl hm ?_ ?_
          · intro b' ob' hb i hi hx
            cases hb
            omega
          · intro b' ob' hb
            cases hb
            exact hn
    · cases h
  | o0 :: o' :: p, row, new, row', base, Bs, b, o, hs, hm, h, ha, hE, hn, hsn, hB, hap, hO => by
    simp only [setG] at h
    simp only [addrG] at ha
    split at h
    · rename_i sz m cap a cells hg
      simp only [hg] at ha
      simp only [Option.map_eq_some_iff] at h
      obtain ⟨c, hc, rfl⟩ := h
      have hsat := hs.get hg
      simp only [Sat] at hsat
      obtain ⟨s1, s2, s3, s4, s5, s6, s7⟩ := hsat
      obtain ⟨A, B, e1, e2⟩ := extsL_set hg (.sl true sz m cap a c)
      have hap0 := hap
      rw [e1] at hap
      have hapG : Apart (ownExt true a ++ extsL cells) := by
        have h1 := (Apart.append.1 hap).2.1
        have h2 := (Apart.append.1 (Apart.append.1 h1).1).2.1
        simpa only [GV.exts] using h2
      have hOG : ∀ b o, inE (ownExt true a ++ extsL cells) b o → O b o := fun b o he => hO b o (inE_append.2 (.inr (inE_extsL.2 ⟨_, List.mem_of_getElem? hg, by simpa only [GV.exts] using he⟩)))
      have hBG : ∀ b o, a = some (b, o) → ∀ i, i < cells.length → inE (ownExt true a) b (o + i) := fun b o hb i hi => by subst hb; exact inE_one.2 rfl
      have hin := addrG_inE (Bs := ownExt true a) s7 hBG hc ha
      obtain ⟨t1, t2⟩ := write_row hO' s7 s4 hc ha hE hn hsn hBG hapG hOG
      have hXG : ∀ b' o', (b' = b ∧ o ≤ o' ∧ o' < o + new.length) → inE (ownExt true a ++ extsL cells) b' o' := by
        rintro b' o'' ⟨rfl, h1, h2⟩
        have := hin (o'' - o) (by omega)
        rwa [Nat.add_sub_cancel' (by omega)] at this
      have hX : ∀ b' o', (b' = b ∧ o ≤ o' ∧ o' < o + new.length) → O b' o' := fun b' o' hx => hOG _ _ (hXG _ _ hx)
      have ho0 : o0 < row.length := (List.getElem?_eq_some_iff.1 hg).1
      refine ⟨?_, ?_⟩
      · refine SatL_iff.2 fun g hgm => ?_
        rw [List.mem_iff_getElem?] at hgm
        obtain ⟨i, hi⟩ := hgm
        rw [List.getElem?_set] at hi
        split at hi
        · rename_i heq
          first | rw [if_pos (by omega)] at hi | skip
          cases hi
          simp only [Sat]
          refine ⟨by rw [setG_length hc]; exact s1, s2, s3, t2, ?_, fun h => absurd h (by decide), t1⟩
          intro b' o'' hb
          exact ⟨fun _ => hE.blk _ _ ((s5 b' o'' hb).1 trivial), fun h => absurd h (by decide)⟩
        · rename_i hne
          refine Sat_evo hE hX hO' g (hs.get hi) fun b' o'' he hx => ?_
          have hxg := hXG b' o'' hx
          -- the other cell's extents are apart from the leaf's
          have hpair : ∀ b o, inE g.exts b o → inE (ownExt true a ++ extsL cells) b o → False := by
            intro b1 o1 hg1 hg2
            have hap1 := (Apart.append.1 hap0).2.1
            obtain ⟨hi', hgi⟩ := List.getElem?_eq_some_iff.1 hi
            obtain ⟨ho', hgo⟩ := List.getElem?_eq_some_iff.1 hg
            rcases Nat.lt_or_gt_of_ne hne with hlt | hlt
            · have e : row = row.take i ++ row.drop i := (List.take_append_drop i row).symm
              rw [e, extsL_append] at hap1
              refine (Apart.append.1 hap1).2.2 b1 o1 (inE_extsL.2 ⟨.sl true sz m cap a cells, ?_, by simpa only [GV.exts] using hg2⟩) (inE_extsL.2 ⟨g, ?_, hg1⟩)
              · exact List.mem_of_getElem? (i := o0) (by rw [List.getElem?_take, if_pos hlt]; exact hg)
              · exact List.mem_of_getElem? (i := 0) (by rw [List.getElem?_drop]; simpa using hi)
            · have e : row = row.take o0 ++ row.drop o0 := (List.take_append_drop o0 row).symm
              rw [e, extsL_append] at hap1
              refine (Apart.append.1 hap1).2.2 b1 o1 (inE_extsL.2 ⟨g, ?_, hg1⟩) (inE_extsL.2 ⟨.sl true sz m cap a cells, ?_, by simpa only [GV.exts] using hg2⟩)
              · exact List.mem_of_getElem? (i := i) (by rw [List.getElem?_take, if_pos hlt]; exact hi)
              · exact List.mem_of_getElem? (i := 0) (by rw [List.getElem?_drop]; simpa using hg)
          exact hpair _ _ he hxg
      · intro b' ob hb i g hgi
        have hne : ∀ i, i < row.length → ¬ (b' = b ∧ o ≤ ob + i ∧ ob + i < o + new.length) := by
          intro i hi hx
          have h1 := hB b' ob hb i hi
          have h2 := hXG b' (ob + i) hx
          exact (Apart.append.1 hap0).2.2 _ _ h1 (inE_extsL.2 ⟨_, List.mem_of_getElem? hg, by simpa only [GV.exts] using h2⟩)
        rw [List.getElem?_set] at hgi
        split at hgi
        · rename_i heq
          subst heq
          first | rw [if_pos ho0] at hgi | skip
          cases hgi
          have hc0 := hm b' ob hb o0 _ hg
          rw [hE.cell b' _ (at_lt hc0) (hne o0 ho0)]
          exact hc0
        · have hc0 := hm b' ob hb i g hgi
          rw [hE.cell b' _ (at_lt hc0) (hne i (List.getElem?_eq_some_iff.1 hgi).1)]
          exact hc0
    · cases h

/-- A set on a row that lies nowhere (a value in flight): memory stays. -/
theorem set_virtual {w : World} {O : Nat → Nat → Prop} {o : Nat} {row new row' : List GV} (hs : SatL w O row) (hn : SatL w O new) (h : setG [o] row new = some row') : SatL w O row' := by
  simp only [setG] at h
  split at h
  · cases h
    refine SatL_append.2 ⟨SatL_append.2 ⟨?_, hn⟩, ?_⟩
    · exact SatL_iff.2 fun g hg => SatL_iff.1 hs g (List.mem_of_mem_take hg)
    · exact SatL_iff.2 fun g hg => SatL_iff.1 hs g (List.mem_of_mem_drop hg)
  · cases h

end Go.Proofs.YtddfcajdelfikaaDoor.Vm
