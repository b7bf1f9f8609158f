/- Typed values as rows of cells. -/
import Derived.Test.YtddfcajdelfikaaDoorVm32
set_option linter.unusedVariables false
set_option linter.unusedSimpArgs false
set_option linter.unusedSectionVars false
namespace Go.Proofs.YtddfcajdelfikaaDoor.Vm
open Go
open PV (frzL)

structure Enc (α : Type) where
  sz : Nat
  row : Bool → α → List PV
  len : ∀ o x, (row o x).length = sz
  frz : ∀ o x, frzL (row o x) = row false x
  cl : ∀ x, PV.cleanL (row true x) = true

def Enc.L {α : Type} (E : Enc α) (o : Bool) : List α → List PV
  | [] => []
  | x :: xs => E.row o x ++ E.L o xs

@[go_sem] theorem frzL_append (a b : List PV) : frzL (a ++ b) = frzL a ++ frzL b := by simp [frzL_eq]
@[go_sem] theorem cleanL_append : ∀ (a b : List PV), PV.cleanL (a ++ b) = (PV.cleanL a && PV.cleanL b)
  | [], b => by simp [PV.cleanL]
  | x :: a, b => by simp [PV.cleanL, cleanL_append a b, Bool.and_assoc]
@[go_sem] theorem flatRow_append : ∀ (a b : List PV), flatRow (a ++ b) = (flatRow a && flatRow b)
  | [], b => by simp [flatRow]
  | x :: a, b => by simp [flatRow, flatRow_append a b, Bool.and_assoc]

section
variable {α : Type} (E : Enc α)
@[go_sem] theorem Enc.L_nil (o : Bool) : E.L o [] = [] := rfl
@[go_sem] theorem Enc.L_cons (o : Bool) (x : α) (xs : List α) : E.L o (x :: xs) = E.row o x ++ E.L o xs := rfl
@[go_sem] theorem Enc.L_append (o : Bool) : ∀ (xs ys : List α), E.L o (xs ++ ys) = E.L o xs ++ E.L o ys
  | [], ys => rfl
  | x :: xs, ys => by simp [Enc.L, Enc.L_append o xs ys]
@[go_sem] theorem Enc.frzL_L (o : Bool) : ∀ (xs : List α), frzL (E.L o xs) = E.L false xs
  | [] => rfl
  | x :: xs => by simp only [Enc.L, frzL_append, E.frz, Enc.frzL_L o xs]
@[go_sem] theorem Enc.cleanL_L : ∀ (xs : List α), PV.cleanL (E.L true xs) = true
  | [] => rfl
  | x :: xs => by simp only [Enc.L, cleanL_append, E.cl, Enc.cleanL_L xs, Bool.and_self]
theorem Enc.L_length (o : Bool) : ∀ (xs : List α), (E.L o xs).length = xs.length * E.sz
  | [] => by simp [Enc.L]
  | x :: xs => by simp only [Enc.L, List.length_append, E.len, Enc.L_length o xs, List.length_cons, Nat.succ_mul]; omega

theorem Enc.L_drop (o : Bool) : ∀ (xs : List α) (n : Nat), (E.L o xs).drop (n * E.sz) = E.L o (xs.drop n)
  | xs, 0 => by simp
  | [], n + 1 => by simp [Enc.L]
  | x :: xs, n + 1 => by
    simp only [Enc.L, List.drop_succ_cons]
    rw [← Enc.L_drop o xs n, Nat.succ_mul, Nat.add_comm, ← List.drop_drop]
    congr 1
    rw [List.drop_append_of_le_length (by rw [E.len]; exact Nat.le_refl _), ← E.len o x, List.drop_length, List.nil_append]

theorem Enc.L_take (o : Bool) : ∀ (xs : List α) (n : Nat), (E.L o xs).take (n * E.sz) = E.L o (xs.take n)
  | xs, 0 => by simp [Enc.L]
  | [], n + 1 => by simp [Enc.L]
  | x :: xs, n + 1 => by
    simp only [Enc.L, List.take_succ_cons]
    rw [← Enc.L_take o xs n, Nat.succ_mul, Nat.add_comm, List.take_append, E.len]
    congr 1
    · rw [List.take_of_length_le]; rw [E.len]; omega
    · congr 1; omega
end

theorem flatL_of {α : Type} (E : Enc α) (h : ∀ o x, flatRow (E.row o x) = true) (o : Bool) : ∀ (xs : List α), flatRow (E.L o xs) = true
  | [] => rfl
  | x :: xs => by simp only [Enc.L, flatRow_append, h, flatL_of E h o xs, Bool.and_self]

/-- Put together: as '++', but told as it stands. -/
def app {α : Type} (xs ys : List α) : List α := xs ++ ys
@[go_sem] theorem app_length {α : Type} (xs ys : List α) : (app xs ys).length = xs.length + ys.length := List.length_append
@[go_sem] theorem Enc.L_app {α : Type} (E : Enc α) (o : Bool) (xs ys : List α) : E.L o (app xs ys) = E.L o xs ++ E.L o ys := E.L_append o xs ys

/-! ### the plain types -/

def EI (k : IntKind) : Enc Int := ⟨1, fun _ x => [.int k x], fun _ _ => rfl, fun _ _ => rfl, fun _ => rfl⟩
def ES : Enc (List UInt8) := ⟨1, fun _ x => [.str x], fun _ _ => rfl, fun _ _ => rfl, fun _ => rfl⟩
def EB : Enc Bool := ⟨1, fun _ x => [.bool x], fun _ _ => rfl, fun _ _ => rfl, fun _ => rfl⟩
def EU : Enc UInt8 := ⟨1, fun _ x => [.int .u8 x.toNat], fun _ _ => rfl, fun _ _ => rfl, fun _ => rfl⟩
/-- A list in a list. -/
def EL {α : Type} (E : Enc α) (sz : Nat) : Enc (List α) := ⟨1, fun o x => [.sl o sz x.length (E.L o x)], fun _ _ => rfl, fun o x => by simp only [frzL, PV.frz, Enc.frzL_L], fun x => by simp only [PV.cleanL, PV.clean, Bool.true_or, Enc.cleanL_L, Bool.and_self]⟩

@[go_sem] theorem EI_row (k : IntKind) (o : Bool) (x : Int) : (EI k).row o x = [.int k x] := rfl
@[go_sem] theorem ES_row (o : Bool) (x : List UInt8) : ES.row o x = [.str x] := rfl
@[go_sem] theorem EB_row (o : Bool) (x : Bool) : EB.row o x = [.bool x] := rfl
@[go_sem] theorem EU_row (o : Bool) (x : UInt8) : EU.row o x = [.int .u8 x.toNat] := rfl
@[go_sem] theorem EL_row {α : Type} (E : Enc α) (sz : Nat) (o : Bool) (x : List α) : (EL E sz).row o x = [.sl o sz x.length (E.L o x)] := rfl
@[go_sem] theorem EI_flat (k : IntKind) (o : Bool) (xs : List Int) : flatRow ((EI k).L o xs) = true := flatL_of (EI k) (fun _ _ => rfl) o xs
@[go_sem] theorem ES_flat (o : Bool) (xs : List (List UInt8)) : flatRow (ES.L o xs) = true := flatL_of ES (fun _ _ => rfl) o xs
@[go_sem] theorem EB_flat (o : Bool) (xs : List Bool) : flatRow (EB.L o xs) = true := flatL_of EB (fun _ _ => rfl) o xs
@[go_sem] theorem EU_flat (o : Bool) (xs : List UInt8) : flatRow (EU.L o xs) = true := flatL_of EU (fun _ _ => rfl) o xs

/-- The bytes of a string, as a row. -/
@[go_sem] theorem bytesPV_eq (s : List UInt8) : bytesPV s = EU.L false s := by
  induction s with
  | nil => rfl
  | cons b s ih => simp only [bytesPV, List.map_cons, Enc.L, EU, List.cons_append, List.nil_append, List.cons.injEq, true_and]; exact ih
@[go_sem] theorem EU_own (s : List UInt8) : EU.L true s = EU.L false s := by
  induction s with
  | nil => rfl
  | cons b s ih => simp only [Enc.L, ih]; rfl
@[go_sem] theorem EI_own (k : IntKind) (s : List Int) : (EI k).L true s = (EI k).L false s := by
  induction s with
  | nil => rfl
  | cons b s ih => simp only [Enc.L, ih]; rfl
@[go_sem] theorem ES_own (s : List (List UInt8)) : ES.L true s = ES.L false s := by
  induction s with
  | nil => rfl
  | cons b s ih => simp only [Enc.L, ih]; rfl
@[go_sem] theorem EB_own (s : List Bool) : EB.L true s = EB.L false s := by
  induction s with
  | nil => rfl
  | cons b s ih => simp only [Enc.L, ih]; rfl
@[go_sem] theorem EI_cleanF (k : IntKind) (xs : List Int) : PV.cleanL ((EI k).L false xs) = true := by rw [← EI_own]; exact Enc.cleanL_L _ _
@[go_sem] theorem ES_cleanF (xs : List (List UInt8)) : PV.cleanL (ES.L false xs) = true := by rw [← ES_own]; exact Enc.cleanL_L _ _
@[go_sem] theorem EB_cleanF (xs : List Bool) : PV.cleanL (EB.L false xs) = true := by rw [← EB_own]; exact Enc.cleanL_L _ _
@[go_sem] theorem EU_cleanF (xs : List UInt8) : PV.cleanL (EU.L false xs) = true := by rw [← EU_own]; exact Enc.cleanL_L _ _

@[go_sem] theorem toBytes_EU (s : List UInt8) (r : List PV) : toBytes (EU.L false s ++ r) = (toBytes r).map (s ++ ·) := by
  induction s with
  | nil => simp [Enc.L]
  | cons b s ih =>
    simp only [Enc.L, EU_row, List.cons_append, List.nil_append, toBytes, ih]
    have hb : 0 ≤ (b.toNat : Int) ∧ (b.toNat : Int) < 256 := by have := b.toNat_lt; omega
    rw [if_pos hb]
    cases toBytes r <;> simp
@[go_sem] theorem toBytes_EU0 (s : List UInt8) : toBytes (EU.L false s) = some s := by
  have := toBytes_EU s []
  rw [List.append_nil] at this
  rw [this]; simp [toBytes]
@[go_sem] theorem toBytes_byte (b : UInt8) (r : List PV) : toBytes (.int .u8 b.toNat :: r) = (toBytes r).map (b :: ·) := by
  have := toBytes_EU [b] r
  simpa [Enc.L, EU_row] using this

@[go_sem] theorem U8_wrap (x : Int) : ((U8 (IntKind.u8.wrap x)).toNat : Int) = IntKind.u8.wrap x := by
  have h : IntKind.u8.wrap x = x % 256 := IntKind.wrap_u8 x
  rw [h, U8]
  simp only [UInt8.toNat_ofNat']
  omega
@[go_sem] theorem U8_byte (b : UInt8) : U8 (b.toNat : Int) = b := by
  have hb := b.toNat_lt
  apply UInt8.toNat.inj
  simp only [U8, UInt8.toNat_ofNat']
  omega

@[go_sem] theorem rep_int (k : IntKind) (n : Nat) : (List.replicate n [PV.int k 0]).flatten = (EI k).L false (List.replicate n 0) := by
  induction n with
  | zero => rfl
  | succ n ih => simp only [List.replicate_succ, List.flatten_cons, ih, Enc.L, EI_row]
@[go_sem] theorem rep_str (n : Nat) : (List.replicate n [PV.str []]).flatten = ES.L false (List.replicate n []) := by
  induction n with
  | zero => rfl
  | succ n ih => simp only [List.replicate_succ, List.flatten_cons, ih, Enc.L, ES_row]
@[go_sem] theorem rep_bool (n : Nat) : (List.replicate n [PV.bool false]).flatten = EB.L false (List.replicate n false) := by
  induction n with
  | zero => rfl
  | succ n ih => simp only [List.replicate_succ, List.flatten_cons, ih, Enc.L, EB_row]

/-! ### an element -/

def at? {α : Type} (xs : List α) (i : Int) : Option α := if 0 ≤ i then xs[i.toNat]? else none

theorem at?_iff {α : Type} {xs : List α} {i : Int} {x : α} : at? xs i = some x ↔ 0 ≤ i ∧ xs[i.toNat]? = some x := by
  unfold at?
  split <;> simp [*]

theorem at_range {α : Type} {xs : List α} {i : Int} {x : α} (h : at? xs i = some x) : inRange i xs.length = true := by
  obtain ⟨h0, h1⟩ := at?_iff.1 h
  have := (List.getElem?_eq_some_iff.1 h1).1
  simp only [inRange, Bool.and_eq_true, decide_eq_true_eq]
  omega

theorem at_drop {α : Type} (E : Enc α) (o : Bool) {xs : List α} {i : Int} {x : α} (h : at? xs i = some x) : ∃ r, (E.L o xs).drop (i.toNat * E.sz) = E.row o x ++ r := by
  obtain ⟨h0, h1⟩ := at?_iff.1 h
  obtain ⟨h2, h3⟩ := List.getElem?_eq_some_iff.1 h1
  rw [Enc.L_drop, List.drop_eq_getElem_cons h2, h3]
  exact ⟨_, rfl⟩

theorem take_of_row {α : Type} (E : Enc α) (o : Bool) (x : α) (r : List PV) (off n : Nat) (h : off + n ≤ E.sz) : List.take n (List.drop off (E.row o x ++ r)) = List.take n (List.drop off (E.row o x)) := by
  rw [List.drop_append_of_le_length (by rw [E.len]; omega), List.take_append_of_le_length (by rw [List.length_drop, E.len]; omega)]

/-- Read out of frozen memory: a part of an element. -/
theorem at_f {α : Type} (E : Enc α) (o : Bool) (sz off n : Nat) {xs : List α} {i : Int} {x : α} (h : at? xs i = some x) (hs : E.sz = sz := by rfl) (hn : Nat.ble (off + n) sz = true := by rfl) :
    inRange i xs.length = true ∧ Nat.ble n (List.drop off (List.drop (i.toNat * sz) (E.L o xs))).length = true ∧ List.take n (List.drop off (List.drop (i.toNat * sz) (E.L o xs))) = List.take n (List.drop off (E.row o x)) := by
  subst hs
  rw [nat_ble, decide_eq_true_eq] at hn
  obtain ⟨r, hr⟩ := at_drop E o h
  refine ⟨at_range h, ?_, ?_⟩
  · rw [hr, nat_ble, decide_eq_true_eq, List.length_drop, List.length_append, E.len]; omega
  · rw [hr]; exact take_of_row E o x r off n hn

/-- Parts of parts. -/
def dropL : List Nat → List PV → List PV
  | [], l => l
  | o :: os, l => dropL os (l.drop o)
def sumL : List Nat → Nat
  | [] => 0
  | o :: os => o + sumL os
theorem dropL_eq : ∀ (os : List Nat) (l : List PV), dropL os l = l.drop (sumL os)
  | [], l => by simp [dropL, sumL]
  | o :: os, l => by simp only [dropL, sumL, dropL_eq os, List.drop_drop]
attribute [go_sem] dropL sumL

theorem at_fs {α : Type} (E : Enc α) (o : Bool) (sz : Nat) (offs : List Nat) (n : Nat) {xs : List α} {i : Int} {x : α} (h : at? xs i = some x) (hs : E.sz = sz := by rfl) (hn : Nat.ble (sumL offs + n) sz = true := by rfl) :
    inRange i xs.length = true ∧ Nat.ble n (dropL offs (List.drop (i.toNat * sz) (E.L o xs))).length = true ∧ List.take n (dropL offs (List.drop (i.toNat * sz) (E.L o xs))) = List.take n (List.drop (sumL offs) (E.row o x)) := by
  rw [dropL_eq]
  exact at_f E o sz (sumL offs) n h hs hn

/-- Read out of owned memory. -/
theorem at_o {α : Type} (E : Enc α) (o : Bool) (sz off n : Nat) {xs : List α} {i : Int} {x : α} (h : at? xs i = some x) (hs : E.sz = sz := by rfl) (hn : Nat.ble (off + n) sz = true := by rfl) :
    inRange i xs.length = true ∧ i.toNat * sz + off + n ≤ (E.L o xs).length ∧ List.take n (List.drop (i.toNat * sz + off) (E.L o xs)) = List.take n (List.drop off (E.row o x)) := by
  subst hs
  rw [nat_ble, decide_eq_true_eq] at hn
  obtain ⟨r, hr⟩ := at_drop E o h
  refine ⟨at_range h, ?_, ?_⟩
  · have h1 : ((E.L o xs).drop (i.toNat * E.sz)).length = (E.row o x ++ r).length := by rw [hr]
    rw [List.length_drop, List.length_append, E.len] at h1
    by_cases hz : E.sz = 0
    · rw [hz] at hn ⊢
      have : off = 0 ∧ n = 0 := by omega
      simp [this.1, this.2]
    · omega
  · rw [← List.drop_drop, hr]; exact take_of_row E o x r off n hn

theorem at_ow {α : Type} (E : Enc α) (o : Bool) (sz n : Nat) {xs : List α} {i : Int} {x : α} (h : at? xs i = some x) (hs : E.sz = sz := by rfl) (hn : Nat.ble n sz = true := by rfl) :
    inRange i xs.length = true ∧ i.toNat * sz + n ≤ (E.L o xs).length ∧ List.take n (List.drop (i.toNat * sz) (E.L o xs)) = List.take n (E.row o x) := by
  have := at_o E o sz 0 n h hs (by simpa using hn)
  simpa using this

/-- Read out of a window of owned memory. -/
theorem at_w {α : Type} (E : Enc α) (o : Bool) (sz off n lo m : Nat) {xs : List α} {i : Int} {x : α} (h : at? (List.take m (List.drop lo xs)) i = some x) (hm : (List.take m (List.drop lo xs)).length = m) (hs : E.sz = sz := by rfl) (hn : Nat.ble (off + n) sz = true := by rfl) :
    inRange i m = true ∧ (lo + i.toNat) * sz + off + n ≤ (E.L o xs).length ∧ List.take n (List.drop ((lo + i.toNat) * sz + off) (E.L o xs)) = List.take n (List.drop off (E.row o x)) := by
  have h1 := at_range h
  rw [hm] at h1
  obtain ⟨h0, h2⟩ := at?_iff.1 h
  have h3 : xs[lo + i.toNat]? = some x := by
    rw [List.getElem?_take] at h2
    split at h2
    · rw [List.getElem?_drop] at h2; exact h2
    · cases h2
  have h4 : at? xs ((lo + i.toNat : Nat) : Int) = some x := at?_iff.2 ⟨by omega, by rw [Int.toNat_natCast]; exact h3⟩
  have h5 := at_o E o sz off n h4 hs hn
  rw [Int.toNat_natCast] at h5
  exact ⟨h1, h5.2.1, h5.2.2⟩
theorem at_ww {α : Type} (E : Enc α) (o : Bool) (sz n lo m : Nat) {xs : List α} {i : Int} {x : α} (h : at? (List.take m (List.drop lo xs)) i = some x) (hm : (List.take m (List.drop lo xs)).length = m) (hs : E.sz = sz := by rfl) (hn : Nat.ble n sz = true := by rfl) :
    inRange i m = true ∧ (lo + i.toNat) * sz + n ≤ (E.L o xs).length ∧ List.take n (List.drop ((lo + i.toNat) * sz) (E.L o xs)) = List.take n (E.row o x) := by
  have := at_w E o sz 0 n lo m h hm hs (by simpa using hn)
  simpa using this

/-- Set in owned memory: a part of an element. -/
theorem at_set {α : Type} (E : Enc α) (o : Bool) (sz off n : Nat) {xs : List α} {i : Int} {x : α} (x' : α) {new : List PV} (h : at? xs i = some x) (hs : E.sz = sz := by rfl) (hn : Nat.ble (off + n) sz = true := by rfl) (hl : new.length = n := by rfl)
    (hx : List.take off (E.row o x) ++ new ++ List.drop (off + n) (E.row o x) = E.row o x' := by rfl) :
    List.take (i.toNat * sz + off) (E.L o xs) ++ (new ++ List.drop (i.toNat * sz + off + n) (E.L o xs)) = E.L o (xs.set i.toNat x') := by
  subst hs
  rw [nat_ble, decide_eq_true_eq] at hn
  obtain ⟨h0, h1⟩ := at?_iff.1 h
  obtain ⟨h2, h3⟩ := List.getElem?_eq_some_iff.1 h1
  have e : xs = xs.take i.toNat ++ x :: xs.drop (i.toNat + 1) := by
    rw [← h3, ← List.drop_eq_getElem_cons h2, List.take_append_drop]
  have hlen : (E.L o (xs.take i.toNat)).length = i.toNat * E.sz := by rw [Enc.L_length, List.length_take, Nat.min_eq_left (by omega)]
  rw [List.set_eq_take_append_cons_drop, if_pos h2]
  conv => lhs; rw [e]
  simp only [Enc.L_append, Enc.L_cons]
  rw [List.take_append, hlen, List.take_of_length_le (by rw [hlen]; omega), List.drop_append, hlen]
  rw [show i.toNat * E.sz + off - i.toNat * E.sz = off by omega, show i.toNat * E.sz + off + n - i.toNat * E.sz = off + n by omega]
  rw [List.drop_of_length_le (l := E.L o (xs.take i.toNat)) (by rw [hlen]; omega), List.nil_append]
  rw [List.take_append_of_le_length (by rw [E.len]; omega), List.drop_append_of_le_length (by rw [E.len]; omega), ← hx]
  simp only [List.append_assoc]

theorem at_setw {α : Type} (E : Enc α) (o : Bool) (sz n : Nat) {xs : List α} {i : Int} {x : α} (x' : α) {new : List PV} (h : at? xs i = some x) (hs : E.sz = sz := by rfl) (hn : Nat.ble n sz = true := by rfl) (hl : new.length = n := by rfl)
    (hx : new ++ List.drop n (E.row o x) = E.row o x' := by rfl) :
    List.take (i.toNat * sz) (E.L o xs) ++ (new ++ List.drop (i.toNat * sz + n) (E.L o xs)) = E.L o (xs.set i.toNat x') := by
  have := at_set E o sz 0 n x' h hs (by simpa using hn) hl (by simpa using hx)
  simpa using this

/-- A part of a row of elements. -/
theorem sub_f {α : Type} (E : Enc α) (o : Bool) (sz lo n : Nat) (xs : List α) (h : lo + n ≤ xs.length) (hs : E.sz = sz := by rfl) :
    List.take (n * sz) (List.drop (lo * sz) (E.L o xs)) = E.L o (List.take n (List.drop lo xs)) ∧ (List.take n (List.drop lo xs)).length = n := by
  subst hs
  rw [Enc.L_drop, Enc.L_take]
  refine ⟨rfl, ?_⟩
  rw [List.length_take, List.length_drop]
  omega

/-- Bounds of a slice expression, and what it tells. -/
theorem sub_b {α : Type} (E : Enc α) (o : Bool) (sz : Nat) (xs : List α) {l h : Int} (hb : (decide (0 ≤ l) && decide (l ≤ h) && decide (h ≤ (xs.length : Int))) = true) (hs : E.sz = sz := by rfl) :
    List.take ((h.toNat - l.toNat) * sz) (List.drop (l.toNat * sz) (E.L o xs)) = E.L o (List.take (h.toNat - l.toNat) (List.drop l.toNat xs)) ∧ (List.take (h.toNat - l.toNat) (List.drop l.toNat xs)).length = h.toNat - l.toNat := by
  simp only [Bool.and_eq_true, decide_eq_true_eq] at hb
  exact sub_f E o sz _ _ xs (by omega) hs

theorem sub_len {α : Type} (xs : List α) {l h : Int} (hb : (decide (0 ≤ l) && decide (l ≤ h) && decide (h ≤ (xs.length : Int))) = true) : (List.take (h.toNat - l.toNat) (List.drop l.toNat xs)).length = h.toNat - l.toNat := by
  simp only [Bool.and_eq_true, decide_eq_true_eq] at hb
  rw [List.length_take, List.length_drop]
  omega

/-- Room for more elements. -/
def room (b n m : Nat) : Bool := decide ((n + m) * b ≤ 140737488355328) && decide (n + m ≤ 9223372036854775807)
theorem room_iff {b n m : Nat} (h : room b n m = true) : (n + m) * b ≤ 140737488355328 ∧ n + m ≤ 9223372036854775807 := by
  simpa only [room, Bool.and_eq_true, decide_eq_true_eq] using h
def mkOk (b : Nat) (n : Int) : Bool := decide (0 ≤ n) && decide (n * b ≤ 140737488355328) && decide (n ≤ 9223372036854775807)
theorem mkOk_iff {b : Nat} {n : Int} (h : mkOk b n = true) : 0 ≤ n ∧ n * b ≤ 140737488355328 ∧ n ≤ 9223372036854775807 := by
  simp only [mkOk, Bool.and_eq_true, decide_eq_true_eq] at h
  exact ⟨h.1.1, h.1.2, h.2⟩
theorem nz_of {x : Int} (h : (!(x == (0 : Int))) = true) : (x = 0) = False := by simpa using h

/-- A fact comes to the others, worked out. -/
theorem fct {a b F : Prop} (h : a) (f : F) (e : a = b := by first | (simp only [go_sem, reduceIte, Nat.reduceLT, Nat.reduceLeDiff, Nat.reduceEqDiff, Nat.reduceAdd, Nat.reduceSub, Nat.reduceMul, Nat.reduceBEq, Int.reduceEq, Int.reduceToNat, UInt8.reduceToNat, Bool.not_eq_true', Bool.not_eq_false', Bool.and_eq_true, Bool.or_eq_false_iff] <;> rfl) | rfl) : b ∧ F := ⟨e ▸ h, f⟩

/-- The same, with what is known. -/
theorem fctF {a b F' : Prop} (h : a) (f : F') (e : a = b := by first | (simp only [go_sem, reduceIte, Nat.reduceLT, Nat.reduceLeDiff, Nat.reduceEqDiff, Nat.reduceAdd, Nat.reduceSub, Nat.reduceMul, Nat.reduceBEq, Int.reduceEq, Int.reduceToNat, UInt8.reduceToNat, Bool.not_eq_true', Bool.not_eq_false', Bool.and_eq_true, Bool.or_eq_false_iff, F] <;> rfl) | rfl) : b ∧ F' := ⟨e ▸ h, f⟩

theorem or_notS (a : Bool) : (a || !a) = true := by cases a <;> rfl
theorem or_guard4 (a b : Bool) : (!a || (b || (a && !b))) = true := by cases a <;> cases b <;> rfl
theorem or_guard5 (a b : Bool) : (!a || (!b || (a && b))) = true := by cases a <;> cases b <;> rfl
theorem or_guard6 (a b : Bool) : (a || (b || (!a && !b))) = true := by cases a <;> cases b <;> rfl
theorem or_guard7 (a b : Bool) : (a || (!b || (!a && b))) = true := by cases a <;> cases b <;> rfl
theorem or_guard8 (a b : Bool) : (!(a && b) || (a && b)) = true := by cases a <;> cases b <;> rfl
theorem true_beqS (b : Bool) : (true == b) = b := by cases b <;> rfl
theorem false_beqS (b : Bool) : (false == b) = !b := by cases b <;> rfl
attribute [go_sem] true_beqS false_beqS List.length_set or_notS or_guard4 or_guard5 or_guard6 or_guard7 or_guard8 Bool.not_not Int.cast_ofNat_Int and_self true_and and_true eq_self List.append_assoc List.length_append List.length_replicate Int.toNat_natCast

end Go.Proofs.YtddfcajdelfikaaDoor.Vm
