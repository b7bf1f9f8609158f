/- Abstract states over ghosts, the relation to the machine, and the rules of control. -/
import Derived.Test.YtddfcajdelfikaaDoorVm0
import Derived.LoopN
set_option linter.unusedVariables false
set_option linter.unusedSimpArgs false
namespace Go.Proofs.YtddfcajdelfikaaDoor.Vm
open Go
open GV (absL extsL fzL)
open PV (frzL)

/-- A root's key: the temporary that made it, and the component (0: the whole value). -/
abbrev Key := Nat × Nat

inductive Cap where
  | adr (r : Key) (p : List Nat)
  | fadr (row : List PV)

inductive TV where
  | val (agg : Bool) (row : List PV)
  | nil
  | adr (r : Key) (p : List Nat)
  | view (agg : Bool) (r : Key) (p : List Nat) (n : Nat)
  | win (r : Key) (p : List Nat) (lo n : Nat)
  | fadr (row : List PV)
  | clo (f : FuncId) (caps : List Cap)
  | grd (g : Bool) (tv : TV)
  /-- a place that holds what m cells of a root hold, from cell q on -/
  | sh (r : Key) (q m : Nat)

structure Root where
  key : Key
  /-- a value in flight, that lies nowhere -/
  virt : Bool
  row : List PV

structure St where
  env : List (Key × TV)
  roots : List Root
  nt : Nat
  /-- keys of the roots that are pinned -/
  pk : List Key

structure GR where
  key : Key
  loc : Option (Nat × Nat)
  row : List GV

def GR.root (R : GR) : Root := ⟨R.key, R.loc.isNone, absL R.row⟩

def GR.base (R : GR) : List Ext :=
  match R.loc with
  | some (b, o) => [.reg b o R.row.length]
  | none => []

def GR.exts (R : GR) : List Ext := R.base ++ extsL R.row

def extsR : List GR → List Ext
  | [] => []
  | R :: gr => R.exts ++ extsR gr

/-- What frozen cells must avoid: all that is owned here, and all that the callers own. -/
def OW (Z : Nat → Nat → Prop) (gr : List GR) (b o : Nat) : Prop := inE (extsR gr) b o ∨ Z b o

theorem inE_extsR {gr : List GR} {b o : Nat} : inE (extsR gr) b o ↔ ∃ R, R ∈ gr ∧ inE R.exts b o := by
  induction gr with
  | nil => simp [extsR, not_inE_nil]
  | cons R gr ih => simp [extsR, inE_append, ih]

theorem extsR_append (xs ys : List GR) : extsR (xs ++ ys) = extsR xs ++ extsR ys := by
  induction xs with
  | nil => rfl
  | cons g gs ih => simp [extsR, ih]

def Packed (agg : Bool) (gs : List GV) (v : Value) : Prop :=
  match agg with
  | true => v = .agg (gs.map GV.val).toArray
  | false => ∃ g, gs = [g] ∧ v = g.val

def pack (agg : Bool) (gs : List GV) : Value :=
  match agg, gs with
  | true, gs => .agg (gs.map GV.val).toArray
  | false, [g] => g.val
  | false, _ => undef

theorem Packed.eq {agg : Bool} {gs : List GV} {v : Value} (h : Packed agg gs v) : v = pack agg gs := by
  cases agg with
  | true => exact h
  | false => obtain ⟨g, rfl, rfl⟩ := h; rfl

/-- What a pointer to frozen memory tells. -/
def FadrOk (w : World) (O : Nat → Nat → Prop) (row : List PV) (v : Value) : Prop :=
  ∃ gs b o, absL gs = row ∧ fzL gs ∧ SatL w O gs ∧ Mem w (some (b, o)) gs ∧ (∀ i, i < gs.length → ¬ O b (o + i)) ∧ v = .pointer (some (addrOf (b, o)))

def AdrOk (gr : List GR) (r : Key) (p : List Nat) (v : Value) : Prop :=
  ∃ R, R ∈ gr ∧ R.key = r ∧ ∃ x, addrG p R.loc R.row = some x ∧ v = .pointer (some (addrOf x))

def CapOk (Z : Nat → Nat → Prop) (w : World) (gr : List GR) (v : Value) : Cap → Prop
  | .adr r p => AdrOk gr r p v
  | .fadr row => FadrOk w (OW Z gr) row v

def CapsOk (Z : Nat → Nat → Prop) (w : World) (gr : List GR) : List Value → List Cap → Prop
  | [], [] => True
  | v :: vs, c :: cs => CapOk Z w gr v c ∧ CapsOk Z w gr vs cs
  | _, _ => False

def TVOk (Z : Nat → Nat → Prop) (w : World) (gr : List GR) (v : Value) : TV → Prop
  | .val agg row => ∃ gs, absL gs = row ∧ fzL gs ∧ SatL w (OW Z gr) gs ∧ Packed agg gs v
  | .nil => v = .slice none 0 0
  | .adr r p => AdrOk gr r p v
  | .view agg r p n => ∃ R, R ∈ gr ∧ R.key = r ∧ ∃ gs, getG p R.row n = some gs ∧ Packed agg gs v
  | .win r p lo n => ∃ R, R ∈ gr ∧ R.key = r ∧ ∃ sz m cap a cells A c, getG p R.row 1 = some [.sl true sz m cap a cells] ∧ lo + n ≤ m ∧ n ≤ c ∧
      v = .slice (A.map addrOf) n c ∧ (A = none → n = 0 ∧ c = 0) ∧ (0 < n → ∃ b o, a = some (b, o) ∧ A = some (b, o + lo * sz)) ∧ ∀ b o', A = some (b, o') → ∃ o, a = some (b, o) ∧ o' + c * sz ≤ o + cap * sz
  | .sh r q m => ∃ R, R ∈ gr ∧ R.key = r ∧ ∃ gs, getG [q] R.row m = some gs ∧ ∃ b o, v = .pointer (some (addrOf (b, o))) ∧ (∀ i g, gs[i]? = some g → at_ w b (o + i) = some g.val) ∧ ∀ i, i < m → ¬ inE (extsR gr) b (o + i)
  | .fadr row => FadrOk w (OW Z gr) row v
  | .clo f caps => ∃ vs, v = .func (.func f) #[] vs.toArray ∧ CapsOk Z w gr vs caps
  | .grd g tv => (g = true → TVOk Z w gr v tv) ∧ (g = false → v = undef)

/-- An entry of the environment: a temporary, or a component of the tuple that it holds. -/
def EntOk (Z : Nat → Nat → Prop) (w : World) (gr : List GR) (a : Act) : Key × TV → Prop
  | ((t, 0), tv) => t < a.tmps.size ∧ TVOk Z w gr (a.tmps.getD t undef) tv
  | ((t, i + 1), tv) => t < a.tmps.size ∧ ∃ vs v, a.tmps.getD t undef = .tuple vs ∧ vs[i]? = some v ∧ TVOk Z w gr v tv

/-- What is pinned: the root of a parameter keeps its place, or (a value) its own cells' values. -/
structure Pin where
  key : Key
  loc : Option (Nat × Nat)
  vals : List Value

def PinOk (gr : List GR) (p : Pin) : Prop :=
  ∀ R, R ∈ gr → R.key = p.key → R.loc = p.loc ∧ (p.loc = none → R.row.map GV.val = p.vals) ∧ R.row.length = p.vals.length

structure Rel (Z : Nat → Nat → Prop) (w0 : World) (E0 : List Ext) (pins : List Pin) (gr : List GR) (a : Act) (w : World) (st : St) : Prop where
  roots : st.roots = gr.map GR.root
  keys : (gr.map GR.key).Nodup
  apart : Apart (extsR gr)
  sat : ∀ R, R ∈ gr → SatL w (OW Z gr) R.row
  mem : ∀ R, R ∈ gr → Mem w R.loc R.row
  blk : ∀ R, R ∈ gr → ∀ b o, R.loc = some (b, o) → Blk w b (o + R.row.length)
  own : ∀ b o, inE (extsR gr) b o → b < w0.heap.size → inE E0 b o
  evo : Evo w0 w (inE E0)
  pin : ∀ p, p ∈ pins → PinOk gr p
  pk : ∀ p, p ∈ pins → p.key ∈ st.pk
  env : ∀ e, e ∈ st.env → EntOk Z w gr a e
  size : a.tmps.size = st.nt
  defers : a.defers = []

/-! ### all extents lie in the heap -/

mutual
theorem exts_lt {w : World} {O : Nat → Nat → Prop} : ∀ (g : GV), Sat w O g → ∀ b o, inE g.exts b o → b < w.heap.size
  | .sc _ _, _, b, o, h => by simp only [GV.exts] at h; exact absurd h not_inE_nil
  | .sl own sz n cap a cells, hs, b, o, h => by
    simp only [Sat] at hs
    simp only [GV.exts] at h
    rcases inE_append.1 h with h | h
    · cases own with
      | false => simp only [ownExt] at h; exact absurd h not_inE_nil
      | true =>
        cases a with
        | none => simp only [ownExt] at h; exact absurd h not_inE_nil
        | some x =>
          obtain ⟨b0, o0⟩ := x
          simp only [ownExt] at h
          have := inE_one.1 h
          simp only [Ext.has] at this
          subst this
          exact ((hs.2.2.2.2.1 b o0 rfl).1 rfl).lt
    · exact extsL_lt cells hs.2.2.2.2.2.2 b o h
theorem extsL_lt {w : World} {O : Nat → Nat → Prop} : ∀ (gs : List GV), SatL w O gs → ∀ b o, inE (extsL gs) b o → b < w.heap.size
  | [], _, b, o, h => by simp only [GV.extsL] at h; exact absurd h not_inE_nil
  | g :: gs, hs, b, o, h => by
    simp only [SatL] at hs
    simp only [GV.extsL] at h
    rcases inE_append.1 h with h | h
    · exact exts_lt g hs.1 b o h
    · exact extsL_lt gs hs.2 b o h
end

section
variable {Z : Nat → Nat → Prop} {w0 : World} {E0 : List Ext} {pins : List Pin} {gr : List GR} {a : Act} {w : World} {st : St}

theorem GR.inE_exts {R : GR} {b o : Nat} : inE R.exts b o ↔ inE R.base b o ∨ inE (extsL R.row) b o := inE_append

theorem GR.base_in {R : GR} {b o : Nat} (h : R.loc = some (b, o)) : ∀ i, i < R.row.length → inE R.base b (o + i) := by
  intro i hi
  unfold GR.base
  rw [h]
  exact inE_one.2 ⟨rfl, by omega, by omega⟩

theorem Rel.lt (h : Rel Z w0 E0 pins gr a w st) : ∀ b o, inE (extsR gr) b o → b < w.heap.size := by
  intro b o he
  obtain ⟨R, hR, he⟩ := inE_extsR.1 he
  rcases GR.inE_exts.1 he with he | he
  · unfold GR.base at he
    cases hl : R.loc with
    | none => rw [hl] at he; exact absurd he not_inE_nil
    | some x =>
      obtain ⟨b0, o0⟩ := x
      rw [hl] at he
      have := inE_one.1 he
      simp only [Ext.has] at this
      rw [this.1]
      exact (h.blk R hR b0 o0 hl).lt
  · exact extsL_lt R.row (h.sat R hR) b o he

theorem Rel.uniq (h : Rel Z w0 E0 pins gr a w st) {R S : GR} (hR : R ∈ gr) (hS : S ∈ gr) (hk : R.key = S.key) : R = S := by
  have := h.keys
  clear h
  induction gr with
  | nil => cases hR
  | cons T gr ih =>
    simp only [List.map_cons, List.nodup_cons, List.mem_map, not_exists, not_and] at this
    rcases List.mem_cons.1 hR with e1 | e1 <;> rcases List.mem_cons.1 hS with e2 | e2
    · rw [e1, e2]
    · rw [e1] at hk; exact absurd hk.symm (this.1 S e2)
    · rw [e2] at hk; exact absurd hk (this.1 R e1)
    · exact ih e1 e2 this.2
end

/-! ### what carries a temporary's meaning over a change -/

/-- The other side keeps what a term needs of a root. -/
def Keeps (gr gr' : List GR) (r : Key) (f : GR → GR → Prop) : Prop :=
  ∀ R, R ∈ gr → R.key = r → ∃ R', R' ∈ gr' ∧ R'.key = r ∧ R'.loc = R.loc ∧ f R R'

def KeepsAdr (gr gr' : List GR) (r : Key) (p : List Nat) : Prop :=
  Keeps gr gr' r fun R R' => ∀ x, addrG p R.loc R.row = some x → addrG p R'.loc R'.row = some x

def KeepsCap (gr gr' : List GR) : Cap → Prop
  | .adr r p => KeepsAdr gr gr' r p
  | .fadr _ => True

def KeepsTV (gr gr' : List GR) : TV → Prop
  | .adr r p => KeepsAdr gr gr' r p
  | .view _ r p n => Keeps gr gr' r fun R R' => ∀ gs, getG p R.row n = some gs → ∃ gs', getG p R'.row n = some gs' ∧ gs'.map GV.val = gs.map GV.val
  | .sh r q m => Keeps gr gr' r fun R R' => ∀ gs, getG [q] R.row m = some gs → ∃ gs', getG [q] R'.row m = some gs' ∧ gs'.map GV.val = gs.map GV.val
  | .win r p _ _ => Keeps gr gr' r fun R R' => ∀ sz m cap a cells, getG p R.row 1 = some [.sl true sz m cap a cells] → ∃ cells', getG p R'.row 1 = some [.sl true sz m cap a cells']
  | .clo _ caps => ∀ c, c ∈ caps → KeepsCap gr gr' c
  | .grd _ tv => KeepsTV gr gr' tv
  | _ => True

theorem Packed.of_vals {agg : Bool} {gs gs' : List GV} {v : Value} (h : Packed agg gs v) (he : gs'.map GV.val = gs.map GV.val) : Packed agg gs' v := by
  cases agg with
  | true => simp only [Packed] at h ⊢; rw [he]; exact h
  | false =>
    obtain ⟨g, rfl, rfl⟩ := h
    simp only [List.map_cons, List.map_nil] at he
    rw [List.map_eq_singleton_iff] at he
    obtain ⟨g', rfl, he⟩ := he
    exact ⟨g', rfl, he.symm⟩

section
variable {Z : Nat → Nat → Prop} {gr gr' : List GR} {w w' : World} {X : Nat → Nat → Prop}

theorem FadrOk.carry {O O' : Nat → Nat → Prop} (hE : Evo w w' X) (hX : ∀ b o, X b o → O b o) (hO' : ∀ b o, O' b o → b < w.heap.size → O b o) {row : List PV} {v : Value}
    (h : FadrOk w O row v) : FadrOk w' O' row v := by
  obtain ⟨gs, b, o, h1, h2, h3, h4, h5, h6⟩ := h
  refine ⟨gs, b, o, h1, h2, SatL_evo hE hX hO' gs h3 (by rw [GV.extsL_fz h2]; exact fun b o h => absurd h not_inE_nil), Mem_evo hE h4 ?_, ?_, h6⟩
  · intro b' o' hb i hi hx
    cases hb
    exact h5 i hi (hX _ _ hx)
  · intro i hi hx
    have hg : gs[i]? = some gs[i] := by simp [hi]
    exact h5 i hi (hO' _ _ hx (at_lt (h4 b o rfl i _ hg)))

theorem AdrOk.carry {r : Key} {p : List Nat} {v : Value} (hk : KeepsAdr gr gr' r p) (h : AdrOk gr r p v) : AdrOk gr' r p v := by
  obtain ⟨R, hR, hr, x, hx, hv⟩ := h
  obtain ⟨R', hR', hr', hl, hf⟩ := hk R hR hr
  exact ⟨R', hR', hr', x, hf x hx, hv⟩

theorem CapOk.carry (hE : Evo w w' X) (hX : ∀ b o, X b o → OW Z gr b o) (hO' : ∀ b o, OW Z gr' b o → b < w.heap.size → OW Z gr b o) {v : Value} {c : Cap}
    (hk : KeepsCap gr gr' c) (h : CapOk Z w gr v c) : CapOk Z w' gr' v c := by
  cases c with
  | adr r p => exact AdrOk.carry hk h
  | fadr row => exact FadrOk.carry hE hX hO' h

theorem CapsOk.carry (hE : Evo w w' X) (hX : ∀ b o, X b o → OW Z gr b o) (hO' : ∀ b o, OW Z gr' b o → b < w.heap.size → OW Z gr b o) :
    ∀ {vs : List Value} {cs : List Cap}, (∀ c, c ∈ cs → KeepsCap gr gr' c) → CapsOk Z w gr vs cs → CapsOk Z w' gr' vs cs
  | [], [], _, _ => trivial
  | [], _ :: _, _, h => h.elim
  | _ :: _, [], _, h => h.elim
  | v :: vs, c :: cs, hk, h => ⟨CapOk.carry hE hX hO' (hk c (by simp)) h.1, CapsOk.carry hE hX hO' (fun c hc => hk c (by simp [hc])) h.2⟩

theorem TVOk.carry (hE : Evo w w' X) (hX : ∀ b o, X b o → OW Z gr b o) (hO' : ∀ b o, OW Z gr' b o → b < w.heap.size → OW Z gr b o) (hXe : ∀ b o, X b o → inE (extsR gr) b o) (hIe : ∀ b o, inE (extsR gr') b o → b < w.heap.size → inE (extsR gr) b o) {v : Value} :
    ∀ {tv : TV}, KeepsTV gr gr' tv → TVOk Z w gr v tv → TVOk Z w' gr' v tv
  | .val agg row, _, h => by
    obtain ⟨gs, h1, h2, h3, h4⟩ := h
    exact ⟨gs, h1, h2, SatL_evo hE hX hO' gs h3 (by rw [GV.extsL_fz h2]; exact fun b o h => absurd h not_inE_nil), h4⟩
  | .nil, _, h => h
  | .adr r p, hk, h => AdrOk.carry hk h
  | .view agg r p n, hk, h => by
    obtain ⟨R, hR, hr, gs, hg, hp⟩ := h
    obtain ⟨R', hR', hr', hl, hf⟩ := hk R hR hr
    obtain ⟨gs', hg', he⟩ := hf gs hg
    exact ⟨R', hR', hr', gs', hg', hp.of_vals he⟩
  | .win r p lo n, hk, h => by
    obtain ⟨R, hR, hr, sz, m, cap, a, cells, A, c, hg, h2⟩ := h
    obtain ⟨R', hR', hr', hl, hf⟩ := hk R hR hr
    obtain ⟨cells', hg'⟩ := hf sz m cap a cells hg
    exact ⟨R', hR', hr', sz, m, cap, a, cells', A, c, hg', h2⟩
  | .fadr row, _, h => FadrOk.carry hE hX hO' h
  | .clo f caps, hk, h => by
    obtain ⟨vs, hv, hc⟩ := h
    exact ⟨vs, hv, CapsOk.carry hE hX hO' hk hc⟩
  | .sh r q m, hk, h => by
    obtain ⟨R, hR, hr, gs, hg, b, o, hv, hm, hn⟩ := h
    obtain ⟨R', hR', hr', hl, hf⟩ := hk R hR hr
    obtain ⟨gs', hg', he⟩ := hf gs hg
    have hlen : gs.length = m := getG_length hg
    have hlen' : gs'.length = m := getG_length hg'
    refine ⟨R', hR', hr', gs', hg', b, o, hv, fun i g hi => ?_, fun i hi hin => ?_⟩
    · have hi' : i < m := by rw [← hlen']; exact (List.getElem?_eq_some_iff.1 hi).1
      have h0 : gs[i]? = some (gs[i]'(by omega)) := List.getElem?_eq_getElem _
      have hv0 : g.val = (gs[i]'(by omega)).val := by
        have e1 : (gs'.map GV.val)[i]? = (gs.map GV.val)[i]? := by rw [he]
        rw [List.getElem?_map, List.getElem?_map, hi, h0] at e1
        simpa using e1
      have h2 := hm i _ h0
      rw [hE.cell b (o + i) (at_lt h2) (fun hx => hn i hi' (hXe _ _ hx)), hv0]
      exact h2
    · have h0 : gs[i]? = some (gs[i]'(by omega)) := List.getElem?_eq_getElem _
      exact hn i hi (hIe _ _ hin (at_lt (hm i _ h0)))
  | .grd g tv, hk, h => ⟨fun hg => TVOk.carry hE hX hO' hXe hIe hk (h.1 hg), h.2⟩

theorem EntOk.carry (hE : Evo w w' X) (hX : ∀ b o, X b o → OW Z gr b o) (hO' : ∀ b o, OW Z gr' b o → b < w.heap.size → OW Z gr b o) (hXe : ∀ b o, X b o → inE (extsR gr) b o) (hIe : ∀ b o, inE (extsR gr') b o → b < w.heap.size → inE (extsR gr) b o) {a : Act} {e : Key × TV}
    (hk : KeepsTV gr gr' e.2) (h : EntOk Z w gr a e) : EntOk Z w' gr' a e := by
  obtain ⟨⟨t, i⟩, tv⟩ := e
  cases i with
  | zero => exact ⟨h.1, TVOk.carry hE hX hO' hXe hIe hk h.2⟩
  | succ i =>
    obtain ⟨h1, vs, v, h2, h3, h4⟩ := h
    exact ⟨h1, vs, v, h2, h3, TVOk.carry hE hX hO' hXe hIe hk h4⟩
end

theorem Keeps.refl {gr gr' : List GR} (hs : ∀ R, R ∈ gr → R ∈ gr') (r : Key) {f : GR → GR → Prop} (hf : ∀ R, f R R) : Keeps gr gr' r f :=
  fun R hR hr => ⟨R, hs R hR, hr, rfl, hf R⟩

theorem KeepsTV.of_sub {gr gr' : List GR} (hs : ∀ R, R ∈ gr → R ∈ gr') : ∀ (tv : TV), KeepsTV gr gr' tv
  | .val .. => trivial
  | .nil => trivial
  | .adr r p => Keeps.refl hs r fun R x h => h
  | .view .. => Keeps.refl hs _ fun R gs h => ⟨gs, h, rfl⟩
  | .sh .. => Keeps.refl hs _ fun R gs h => ⟨gs, h, rfl⟩
  | .win .. => Keeps.refl hs _ fun R sz m cap a cells h => ⟨cells, h⟩
  | .fadr _ => trivial
  | .clo f caps => fun c _ => by cases c with
    | adr r p => exact Keeps.refl hs r fun R x h => h
    | fadr _ => trivial
  | .grd g tv => KeepsTV.of_sub hs tv

/-! ### triples -/

def Holds (Z : Nat → Nat → Prop) (w0 : World) (E0 : List Ext) (pins : List Pin) (Q : Exit → St → Prop) : Exit → Act → World → Prop :=
  fun e a w => ∃ gr st, Rel Z w0 E0 pins gr a w st ∧ Q e st

def Tri (P : Program) (c : Code) (st : St) (Q : Exit → St → Prop) : Prop :=
  ∀ Z w0 E0 pins gr a w, Rel Z w0 E0 pins gr a w st → c.wp P (Holds Z w0 E0 pins Q) a w

section
variable {P : Program} {st : St} {Q : Exit → St → Prop}

theorem tri_mono {c : Code} {Q' : Exit → St → Prop} (h : Tri P c st Q) (hq : ∀ e s, Q e s → Q' e s) : Tri P c st Q' :=
  fun Z w0 E0 pins gr a w hr => wp_mono (h Z w0 E0 pins gr a w hr) fun _ _ _ ⟨gr, s, h1, h2⟩ => ⟨gr, s, h1, hq _ _ h2⟩

theorem tri_skip (h : Q .normal st) : Tri P .skip st Q := fun _ _ _ _ gr _ _ hr => wp_skip ⟨gr, st, hr, h⟩
theorem tri_exit {id : Nat} (h : Q (.exit id) st) : Tri P (.exit id) st Q := fun _ _ _ _ gr _ _ hr => wp_exit ⟨gr, st, hr, h⟩
theorem tri_ret (h : Q .ret st) : Tri P .ret st Q := fun _ _ _ _ gr _ _ hr => wp_ret ⟨gr, st, hr, h⟩

def Thn (P : Program) (y : Code) (Q : Exit → St → Prop) : Exit → St → Prop
  | .normal, s => Tri P y s Q
  | e, s => Q e s

theorem tri_seq {x y : Code} (h : Tri P x st (Thn P y Q)) : Tri P (.seq x y) st Q := by
  intro Z w0 E0 pins gr a w hr
  refine wp_seq (wp_mono (h Z w0 E0 pins gr a w hr) ?_)
  rintro e a' w' ⟨gr', s, h1, h2⟩
  cases e with
  | normal => exact h2 Z w0 E0 pins gr' a' w' h1
  | exit id => exact ⟨gr', s, h1, h2⟩
  | goto l => exact ⟨gr', s, h1, h2⟩
  | ret => exact ⟨gr', s, h1, h2⟩
  | panic ch => exact ⟨gr', s, h1, h2⟩
  | outgrown => exact ⟨gr', s, h1, h2⟩

def InBlk (id : Nat) (Q : Exit → St → Prop) : Exit → St → Prop
  | .exit id', s => if id' = id then Q .normal s else Q (.exit id') s
  | e, s => Q e s

theorem tri_block {id : Nat} {c : Code} (h : Tri P c st (InBlk id Q)) : Tri P (.block id c) st Q := by
  intro Z w0 E0 pins gr a w hr
  refine wp_block (wp_mono (h Z w0 E0 pins gr a w hr) ?_)
  rintro e a' w' ⟨gr', s, h1, h2⟩
  cases e with
  | exit id' =>
    simp only [InBlk] at h2
    simp only [Exit.inBlock]
    split <;> simp_all <;> exact ⟨gr', s, h1, h2⟩
  | normal => exact ⟨gr', s, h1, h2⟩
  | goto l => exact ⟨gr', s, h1, h2⟩
  | ret => exact ⟨gr', s, h1, h2⟩
  | panic ch => exact ⟨gr', s, h1, h2⟩
  | outgrown => exact ⟨gr', s, h1, h2⟩

/-- A loop by a family of states, each round going down in a measure. -/
theorem tri_loop {c : Code} {ι : Type} (I : ι → St) (μ : ι → Nat) (i0 : ι) (h0 : st = I i0)
    (round : ∀ i, Tri P c (I i) fun e s => match e with
      | .normal => ∃ j, s = I j ∧ μ j < μ i
      | e => Q e s) : Tri P (.loop c) st Q := by
  intro Z w0 E0 pins gr a w hr
  have key : ∀ n i gr a w, μ i < n → Rel Z w0 E0 pins gr a w (I i) → Code.rounds P c (Holds Z w0 E0 pins Q) n a w := by
    intro n
    induction n with
    | zero => intro i gr a w h _; exact absurd h (by omega)
    | succ n ih =>
      intro i gr a w hlt hr
      rw [rounds_succ]
      refine wp_mono (round i Z w0 E0 pins gr a w hr) ?_
      rintro e a' w' ⟨gr', s, h1, h2⟩
      cases e with
      | normal =>
        obtain ⟨j, rfl, hj⟩ := h2
        exact ih j gr' a' w' (by omega) h1
      | exit id => exact ⟨gr', s, h1, h2⟩
      | goto l => exact ⟨gr', s, h1, h2⟩
      | ret => exact ⟨gr', s, h1, h2⟩
      | panic ch => exact ⟨gr', s, h1, h2⟩
      | outgrown => exact ⟨gr', s, h1, h2⟩
  subst h0
  exact wp_loop_rounds _ (key (μ i0 + 1) i0 gr a w (by omega) hr)

/-- A state may forget entries. -/
theorem Rel.weaken {Z : Nat → Nat → Prop} {w0 : World} {E0 : List Ext} {pins : List Pin} {gr : List GR} {a : Act} {w : World} (h : Rel Z w0 E0 pins gr a w st) {env : List (Key × TV)}
    (he : ∀ e, e ∈ env → e ∈ st.env) : Rel Z w0 E0 pins gr a w { st with env := env } :=
  { h with env := fun e h' => h.env e (he e h') }
end

end Go.Proofs.YtddfcajdelfikaaDoor.Vm
