/- Functions: what is handed in, what comes back; the body's proof; calls. -/
import Derived.Test.YtddfcajdelfikaaDoorVm13
set_option linter.unusedVariables false
set_option linter.unusedSimpArgs false
set_option linter.unusedSectionVars false
namespace Go.Proofs.YtddfcajdelfikaaDoor.Vm
open Go
open GV (absL extsL fzL)
open PV (frzL)

inductive PArg where
  | val (agg : Bool) (row : List PV)
  | own (agg : Bool) (row : List PV)
  | ino (agg : Bool) (row : List PV)
  | ref (row : List PV)
  | fptr (row : List PV)
  | clo (f : FuncId) (caps : List (List PV))

def CapsFz (w : World) (O : Nat → Nat → Prop) : List Value → List (List PV) → Prop
  | [], [] => True
  | v :: vs, r :: rs => FadrOk w O r v ∧ CapsFz w O vs rs
  | _, _ => False

def ArgOk (w : World) (O : Nat → Nat → Prop) (v : Value) : PArg → List Ext → Prop
  | .val agg row, E => E = [] ∧ ∃ gs, absL gs = row ∧ fzL gs ∧ SatL w O gs ∧ Packed agg gs v
  | .own agg row, E => ∃ gs, absL gs = row ∧ SatL w O gs ∧ Packed agg gs v ∧ E = extsL gs
  | .ino agg row, E => ∃ gs, absL gs = row ∧ SatL w O gs ∧ Packed agg gs v ∧ E = extsL gs
  | .ref row, E => ∃ b o gs, v = .pointer (some (addrOf (b, o))) ∧ absL gs = row ∧ SatL w O gs ∧ Mem w (some (b, o)) gs ∧ Blk w b (o + gs.length) ∧ E = [.reg b o gs.length] ++ extsL gs
  | .fptr row, E => E = [] ∧ FadrOk w O row v
  | .clo f caps, E => E = [] ∧ ∃ vs, v = .func (.func f) #[] vs.toArray ∧ CapsFz w O vs caps

def ArgsOk (w : World) (O : Nat → Nat → Prop) : List Value → List PArg → List (List Ext) → Prop
  | [], [], [] => True
  | v :: vs, x :: xs, E :: Es => ArgOk w O v x E ∧ ArgsOk w O vs xs Es
  | _, _, _ => False

/-- What is told of an argument behind the call. -/
def OutOk (w : World) (O : Nat → Nat → Prop) (v : Value) : PArg → List PV → List Ext → Prop
  | .ino agg _, out, E => ∃ gs, absL gs = out ∧ SatL w O gs ∧ Packed agg gs v ∧ E = extsL gs
  | .ref row, out, E => ∃ b o gs, v = .pointer (some (addrOf (b, o))) ∧ absL gs = out ∧ out.length = row.length ∧ SatL w O gs ∧ Mem w (some (b, o)) gs ∧ E = [.reg b o gs.length] ++ extsL gs
  | _, out, E => out = [] ∧ E = []

def OutsOk (w : World) (O : Nat → Nat → Prop) : List Value → List PArg → List (List PV) → List (List Ext) → Prop
  | [], [], [], [] => True
  | v :: vs, x :: xs, out :: outs, E :: Es => OutOk w O v x out E ∧ OutsOk w O vs xs outs Es
  | _, _, _, _ => False

def CompsOk (w : World) (O : Nat → Nat → Prop) : List Value → List (Bool × List PV) → List (List Ext) → Prop
  | [], [], [] => True
  | v :: vs, (agg, row) :: rs, E :: Es => (∃ gs, absL gs = row ∧ SatL w O gs ∧ Packed agg gs v ∧ E = extsL gs) ∧ CompsOk w O vs rs Es
  | _, _, _ => False

/-- A result's value: alone as it is, else a tuple. -/
def retV (vs : List Value) : Value :=
  match vs with
  | [v] => v
  | vs => .tuple vs.toArray

/-- A call, of a function of Go or of one that the model does itself. -/
def CallsW (P : Program) (f : FuncId) (args : Array Value) (w : World) (R : Ending → World → Prop) : Prop :=
  match (callFunc f args).run P w with
  | .ok (.enter f' as) w' => Calls P f' as w' R
  | .ok (.value v) w' => R (.returned v) w'
  | _ => False

theorem CallsW.mono {P : Program} {f : FuncId} {args : Array Value} {w : World} {R R' : Ending → World → Prop} (h : CallsW P f args w R) (hr : ∀ e w', R e w' → R' e w') : CallsW P f args w R' := by
  unfold CallsW at h ⊢
  split
  · rename_i he; rw [he] at h; exact Calls.mono h hr
  · rename_i he; rw [he] at h; exact hr _ _ h
  · rename_i h1 h2
    generalize (callFunc f args).run P w = r at *
    split at h
    · exact absurd rfl (h1 _ _ _)
    · exact absurd rfl (h2 _ _)
    · exact h

theorem run_callFunc_go {P : Program} {f : FuncId} {fn : Func} {c : Code} (hf : P.funcs[f]? = some fn) (hname : (fn.name == "runtime.NumGoroutine") = false) (hb : fn.body = some c) (args : Array Value) (w : World) :
    (callFunc f args).run P w = .ok (.enter f args) w := by
  have h1 : fn.name ≠ "runtime.NumGoroutine" := by simpa using hname
  simp [callFunc, go_sem, hf, hb, h1]

theorem callsW_iff {P : Program} {f : FuncId} {fn : Func} {c : Code} (hf : P.funcs[f]? = some fn) (hname : (fn.name == "runtime.NumGoroutine") = false) (hb : fn.body = some c) {args : Array Value} {w : World} {R : Ending → World → Prop} :
    CallsW P f args w R ↔ Calls P f args w R := by
  unfold CallsW
  rw [run_callFunc_go hf hname hb]

def OE (Z : Nat → Nat → Prop) (E : List Ext) (b o : Nat) : Prop := inE E b o ∨ Z b o

/-- The function, called with these values, tells what Q says: its results, and what became of its arguments' cells. -/
def Good (P : Program) (f : FuncId) (args : List PArg) (Q : List (Bool × List PV) → List (List PV) → Prop) : Prop :=
  ∀ Z w vs Es, ArgsOk w (OE Z Es.flatten) vs args Es → Apart Es.flatten →
    CallsW P f vs.toArray w fun e w' => ∃ rv rets outs Er Eo, e = .returned (retV rv) ∧ Q rets outs ∧
      CompsOk w' (OE Z (Er.flatten ++ Eo.flatten)) rv rets Er ∧ OutsOk w' (OE Z (Er.flatten ++ Eo.flatten)) vs args outs Eo ∧
      Apart (Er.flatten ++ Eo.flatten) ∧ (∀ b o, inE (Er.flatten ++ Eo.flatten) b o → b < w.heap.size → inE Es.flatten b o) ∧ Evo w w' (inE Es.flatten)

theorem Good.mono {P : Program} {f : FuncId} {args : List PArg} {Q Q' : List (Bool × List PV) → List (List PV) → Prop} (h : Good P f args Q) (hq : ∀ r o, Q r o → Q' r o) : Good P f args Q' :=
  fun Z w vs Es h1 h2 => (h Z w vs Es h1 h2).mono fun e w' ⟨rv, rets, outs, Er, Eo, a1, a2, a3⟩ => ⟨rv, rets, outs, Er, Eo, a1, hq _ _ a2, a3⟩

/-! ### the state at a function's begin -/

def argTV (i : Nat) : PArg → TV
  | .val agg row => .val agg row
  | .own agg row => .view agg (i, 0) [0] row.length
  | .ino agg row => .view agg (i, 0) [0] row.length
  | .ref _ => .adr (i, 0) [0]
  | .fptr row => .fadr row
  | .clo f caps => .clo f (caps.map .fadr)

def argRoot (i : Nat) : PArg → List Root
  | .own _ row => [⟨(i, 0), true, row⟩]
  | .ino _ row => [⟨(i, 0), true, row⟩]
  | .ref row => [⟨(i, 0), false, row⟩]
  | _ => []

def argPk (i : Nat) : PArg → List Key
  | .ino _ _ => [(i, 0)]
  | .ref _ => [(i, 0)]
  | _ => []

def startEnv : Nat → List PArg → List (Key × TV)
  | _, [] => []
  | i, x :: xs => ((i, 0), argTV i x) :: startEnv (i + 1) xs

def startRoots : Nat → List PArg → List Root
  | _, [] => []
  | i, x :: xs => argRoot i x ++ startRoots (i + 1) xs

def startPk : Nat → List PArg → List Key
  | _, [] => []
  | i, x :: xs => argPk i x ++ startPk (i + 1) xs

def start (nt : Nat) (args : List PArg) : St := ⟨startEnv 0 args, startRoots 0 args, nt, startPk 0 args⟩

/-! ### a function's end -/

/-- A result variable: its row, taken out of the state. -/
def outVar (T : Tab) (st : St) : ResultVar → Option (St × Bool × List PV)
  | .tmp t => match st.opv (.tmp t) with
    | some (.val agg row) => some (st, agg, row)
    | some (.view agg r p n) => match rlk st.roots r with
      | some R => bif isWhole R p n then (bif hasKey st.pk r then none else some (st.drop r, agg, R.row)) else none
      | none => none
    | _ => none
  | .cell t ty => match T.get ty, st.opv (.tmp t) with
    | some e, some (.adr r [0]) => match rlk st.roots r with
      | some R => bif Nat.beq R.row.length e.size && !R.virt then (bif hasKey st.pk r then none else some (st.drop r, e.agg, R.row)) else none
      | none => none
    | _, _ => none

def outVars (T : Tab) : St → List ResultVar → Option (St × List (Bool × List PV))
  | st, [] => some (st, [])
  | st, x :: xs => match outVar T st x with
    | some (st1, r) => match outVars T st1 xs with
      | some (st2, rs) => some (st2, r :: rs)
      | none => none
    | none => none

def argOut (st : St) (i : Nat) : PArg → Option (List PV)
  | .ino _ _ => match rlk st.roots (i, 0) with
    | some R => some R.row
    | none => none
  | .ref _ => match rlk st.roots (i, 0) with
    | some R => some R.row
    | none => none
  | _ => some []

def argOuts (st : St) : Nat → List PArg → Option (List (List PV))
  | _, [] => some []
  | i, x :: xs => match argOut st i x, argOuts st (i + 1) xs with
    | some o, some os => some (o :: os)
    | _, _ => none

/-- What must hold where a body ends. -/
def EndsIn (T : Tab) (results : List ResultVar) (args : List PArg) (Q : List (Bool × List PV) → List (List PV) → Prop) : Exit → St → Prop
  | .normal, st => ∃ st1 rets outs, outVars T st results = some (st1, rets) ∧ argOuts st1 0 args = some outs ∧ Q rets outs
  | .ret, st => ∃ st1 rets outs, outVars T st results = some (st1, rets) ∧ argOuts st1 0 args = some outs ∧ Q rets outs
  | _, _ => False

/-! ### from the body to the function -/

theorem SatL.less {w : World} {O O' : Nat → Nat → Prop} {gs : List GV} (h : SatL w O gs) (ho : ∀ b o, O' b o → b < w.heap.size → O b o) : SatL w O' gs :=
  SatL_evo (Evo.refl w (fun _ _ => False)) (fun _ _ h => h.elim) ho gs h (fun _ _ _ h => h)

theorem CompsOk.less {w : World} {O O' : Nat → Nat → Prop} (ho : ∀ b o, O' b o → b < w.heap.size → O b o) : ∀ {vs : List Value} {rs : List (Bool × List PV)} {Es : List (List Ext)}, CompsOk w O vs rs Es → CompsOk w O' vs rs Es
  | [], [], [], _ => trivial
  | v :: vs, (agg, row) :: rs, E :: Es, h => by
    obtain ⟨⟨gs, h1, h2, h3, h4⟩, h5⟩ := h
    exact ⟨⟨gs, h1, h2.less ho, h3, h4⟩, CompsOk.less ho h5⟩
  | [], [], _ :: _, h => h.elim
  | [], _ :: _, _, h => h.elim
  | _ :: _, [], _, h => h.elim
  | _ :: _, _ :: _, [], h => h.elim

theorem OutOk.less {w : World} {O O' : Nat → Nat → Prop} (ho : ∀ b o, O' b o → b < w.heap.size → O b o) {v : Value} {x : PArg} {out : List PV} {E : List Ext} (h : OutOk w O v x out E) : OutOk w O' v x out E := by
  cases x with
  | ino agg row =>
    obtain ⟨gs, h1, h2, h3, h4⟩ := h
    exact ⟨gs, h1, h2.less ho, h3, h4⟩
  | ref row =>
    obtain ⟨b, o, gs, h1, h2, h3, h4, h5, h6⟩ := h
    exact ⟨b, o, gs, h1, h2, h3, h4.less ho, h5, h6⟩
  | val => exact h
  | own => exact h
  | fptr => exact h
  | clo => exact h

theorem OutsOk.less {w : World} {O O' : Nat → Nat → Prop} (ho : ∀ b o, O' b o → b < w.heap.size → O b o) : ∀ {vs : List Value} {xs : List PArg} {outs : List (List PV)} {Es : List (List Ext)}, OutsOk w O vs xs outs Es → OutsOk w O' vs xs outs Es
  | [], [], [], [], _ => trivial
  | v :: vs, x :: xs, out :: outs, E :: Es, h => ⟨h.1.less ho, OutsOk.less ho h.2⟩
  | [], [], [], _ :: _, h => h.elim
  | [], [], _ :: _, _, h => h.elim
  | [], _ :: _, _, _, h => h.elim
  | _ :: _, [], _, _, h => h.elim
  | _ :: _, _ :: _, [], _, h => h.elim
  | _ :: _, _ :: _, _ :: _, [], h => h.elim

/-- The pin of an argument. -/
def PinFor (v : Value) (i : Nat) : PArg → List Pin → Prop
  | .ino agg _, ps => ∃ vals : List Value, ps = [⟨(i, 0), none, vals⟩] ∧ (match agg with | true => v = .agg vals.toArray | false => vals = [v])
  | .ref row, ps => ∃ b o vals, ps = [⟨(i, 0), some (b, o), vals⟩] ∧ v = .pointer (some (addrOf (b, o))) ∧ vals.length = row.length
  | _, ps => ps = []

def PinsFor : Nat → List Value → List PArg → List (List Pin) → Prop
  | _, [], [], [] => True
  | i, v :: vs, x :: xs, p :: ps => PinFor v i x p ∧ PinsFor (i + 1) vs xs ps
  | _, _, _, _ => False

theorem capsFz_ok {Z : Nat → Nat → Prop} {w : World} {gr : List GR} : ∀ {vs : List Value} {rs : List (List PV)}, CapsFz w (OW Z gr) vs rs → CapsOk Z w gr vs (rs.map .fadr)
  | [], [], _ => trivial
  | v :: vs, r :: rs, h => ⟨h.1, capsFz_ok h.2⟩
  | [], _ :: _, h => h.elim
  | _ :: _, [], h => h.elim

theorem start_ok {Z : Nat → Nat → Prop} {w : World} {O : Nat → Nat → Prop} : ∀ {i : Nat} {vs : List Value} {xs : List PArg} {Es : List (List Ext)}, ArgsOk w O vs xs Es →
    ∃ gr ps, startRoots i xs = gr.map GR.root ∧ extsR gr = Es.flatten ∧ (∀ R, R ∈ gr → i ≤ R.key.1 ∧ R.key.2 = 0) ∧ (gr.map GR.key).Nodup ∧
      (∀ R, R ∈ gr → SatL w O R.row ∧ Mem w R.loc R.row ∧ ∀ b o, R.loc = some (b, o) → Blk w b (o + R.row.length)) ∧
      PinsFor i vs xs ps ∧ (∀ p, p ∈ ps.flatten → p.key ∈ startPk i xs ∧ ∃ R, R ∈ gr ∧ R.key = p.key ∧ R.loc = p.loc ∧ R.row.map GV.val = p.vals) ∧
      (∀ grT, (∀ R, R ∈ gr → R ∈ grT) → (∀ b o, OW Z grT b o ↔ O b o) → ∀ e, e ∈ startEnv i xs → e.1.2 = 0 ∧ ∃ j v, e.1.1 = i + j ∧ vs[j]? = some v ∧ TVOk Z w grT v e.2)
  | i, [], [], [], _ => ⟨[], [], rfl, rfl, (fun R h => by cases h), List.nodup_nil, (fun R h => by cases h), trivial, (fun p h => by cases h), fun _ _ _ e h => by cases h⟩
  | i, [], [], _ :: _, h => h.elim
  | i, [], _ :: _, _, h => h.elim
  | i, _ :: _, [], _, h => h.elim
  | i, _ :: _, _ :: _, [], h => h.elim
  | i, v :: vs, x :: xs, E :: Es, h => by
    obtain ⟨gr, ps, h1, h2, h3, h4, h5, h6, h7, h8⟩ := start_ok (i := i + 1) h.2
    have hx := h.1
    have hO : ∀ {grT : List GR}, (∀ b o, OW Z grT b o ↔ O b o) → OW Z grT = O := fun hh => funext fun b => funext fun o => propext (hh b o)
    have hne : ∀ R, R ∈ gr → R.key ≠ (i, 0) := fun R hR e => by have := (h3 R hR).1; rw [e] at this; exact absurd this (by simp)
    -- entries of the others
    have rest : ∀ grT, (∀ R, R ∈ gr → R ∈ grT) → (∀ b o, OW Z grT b o ↔ O b o) → ∀ e, e ∈ startEnv (i + 1) xs → e.1.2 = 0 ∧ ∃ j v', e.1.1 = i + j ∧ (v :: vs)[j]? = some v' ∧ TVOk Z w grT v' e.2 := by
      intro grT q1 q2 e he
      obtain ⟨r1, j, v', r2, r3, r4⟩ := h8 grT q1 q2 e he
      exact ⟨r1, j + 1, v', by omega, by simpa using r3, r4⟩
    -- an argument without a root
    have plain : argRoot i x = [] → argPk i x = [] → E = [] → PinFor v i x [] → (∀ grT, OW Z grT = O → TVOk Z w grT v (argTV i x)) →
        ∃ gr ps, startRoots i (x :: xs) = gr.map GR.root ∧ extsR gr = (E :: Es).flatten ∧ (∀ R, R ∈ gr → i ≤ R.key.1 ∧ R.key.2 = 0) ∧ (gr.map GR.key).Nodup ∧
      (∀ R, R ∈ gr → SatL w O R.row ∧ Mem w R.loc R.row ∧ ∀ b o, R.loc = some (b, o) → Blk w b (o + R.row.length)) ∧
      PinsFor i (v :: vs) (x :: xs) ps ∧ (∀ p, p ∈ ps.flatten → p.key ∈ startPk i (x :: xs) ∧ ∃ R, R ∈ gr ∧ R.key = p.key ∧ R.loc = p.loc ∧ R.row.map GV.val = p.vals) ∧
      (∀ grT, (∀ R, R ∈ gr → R ∈ grT) → (∀ b o, OW Z grT b o ↔ O b o) → ∀ e, e ∈ startEnv i (x :: xs) → e.1.2 = 0 ∧ ∃ j v', e.1.1 = i + j ∧ (v :: vs)[j]? = some v' ∧ TVOk Z w grT v' e.2) := by
      intro a1 a2 a3 a4 a5
      refine ⟨gr, [] :: ps, by simp only [startRoots, a1, List.nil_append, h1], by rw [a3]; simpa using h2, fun R hR => ⟨by have := (h3 R hR).1; omega, (h3 R hR).2⟩, h4, h5, ⟨a4, h6⟩, ?_, ?_⟩
      · intro p hp
        obtain ⟨q1, q2⟩ := h7 p (by simpa using hp)
        exact ⟨by simp only [startPk, a2, List.nil_append]; exact q1, q2⟩
      · intro grT q1 q2 e he
        simp only [startEnv] at he
        rcases List.mem_cons.1 he with rfl | he
        · exact ⟨rfl, 0, v, rfl, rfl, a5 grT (hO q2)⟩
        · exact rest grT q1 q2 e he
    -- an argument with a root of its own
    have rooted : ∀ (loc : Option (Nat × Nat)) (gs : List GV), argRoot i x = [⟨(i, 0), loc.isNone, absL gs⟩] → E = (⟨(i, 0), loc, gs⟩ : GR).exts → SatL w O gs → Mem w loc gs → (∀ b o, loc = some (b, o) → Blk w b (o + gs.length)) →
        (∃ p, PinFor v i x p ∧ ∀ q, q ∈ p → q.key ∈ argPk i x ∧ q.key = (i, 0) ∧ loc = q.loc ∧ gs.map GV.val = q.vals) → (∀ grT, ⟨(i, 0), loc, gs⟩ ∈ grT → TVOk Z w grT v (argTV i x)) →
        ∃ gr ps, startRoots i (x :: xs) = gr.map GR.root ∧ extsR gr = (E :: Es).flatten ∧ (∀ R, R ∈ gr → i ≤ R.key.1 ∧ R.key.2 = 0) ∧ (gr.map GR.key).Nodup ∧
      (∀ R, R ∈ gr → SatL w O R.row ∧ Mem w R.loc R.row ∧ ∀ b o, R.loc = some (b, o) → Blk w b (o + R.row.length)) ∧
      PinsFor i (v :: vs) (x :: xs) ps ∧ (∀ p, p ∈ ps.flatten → p.key ∈ startPk i (x :: xs) ∧ ∃ R, R ∈ gr ∧ R.key = p.key ∧ R.loc = p.loc ∧ R.row.map GV.val = p.vals) ∧
      (∀ grT, (∀ R, R ∈ gr → R ∈ grT) → (∀ b o, OW Z grT b o ↔ O b o) → ∀ e, e ∈ startEnv i (x :: xs) → e.1.2 = 0 ∧ ∃ j v', e.1.1 = i + j ∧ (v :: vs)[j]? = some v' ∧ TVOk Z w grT v' e.2) := by
      intro loc gs a1 a2 a3 a4 a5 ⟨p, a6, a7⟩ a8
      refine ⟨⟨(i, 0), loc, gs⟩ :: gr, p :: ps, ?_, ?_, ?_, ?_, ?_, ⟨a6, h6⟩, ?_, ?_⟩
      · simp only [startRoots, a1, h1, List.map_cons, List.cons_append, List.nil_append]; rfl
      · simp only [extsR, List.flatten_cons, a2, h2]
      · intro R hR
        rcases List.mem_cons.1 hR with rfl | hR
        · exact ⟨Nat.le_refl _, rfl⟩
        · exact ⟨by have := (h3 R hR).1; omega, (h3 R hR).2⟩
      · refine List.nodup_cons.2 ⟨fun hk => ?_, h4⟩
        obtain ⟨R, hR, e⟩ := List.mem_map.1 hk
        exact hne R hR e
      · intro R hR
        rcases List.mem_cons.1 hR with rfl | hR
        · exact ⟨a3, a4, a5⟩
        · exact h5 R hR
      · intro q hq
        simp only [List.flatten_cons, List.mem_append] at hq
        rcases hq with hq | hq
        · obtain ⟨q1, q2, q3, q4⟩ := a7 q hq
          exact ⟨by simp only [startPk, List.mem_append]; exact .inl q1, _, List.mem_cons_self, q2.symm, q3, q4⟩
        · obtain ⟨q1, R, q2, q3⟩ := h7 q hq
          exact ⟨by simp only [startPk, List.mem_append]; exact .inr q1, R, List.mem_cons_of_mem _ q2, q3⟩
      · intro grT q1 q2 e he
        simp only [startEnv] at he
        rcases List.mem_cons.1 he with rfl | he
        · exact ⟨rfl, 0, v, rfl, rfl, a8 grT (q1 _ List.mem_cons_self)⟩
        · exact rest grT (fun R hR => q1 R (List.mem_cons_of_mem _ hR)) q2 e he
    have whole : ∀ (gs : List GV), getG [0] gs gs.length = some gs := by intro gs; simp [getG]
    cases x with
    | val agg row =>
      obtain ⟨rfl, gs, q1, q2, q3, q4⟩ := hx
      exact plain rfl rfl rfl rfl fun grT hh => ⟨gs, q1, q2, by rw [hh]; exact q3, q4⟩
    | fptr row =>
      obtain ⟨rfl, q⟩ := hx
      exact plain rfl rfl rfl rfl fun grT hh => by show FadrOk w (OW Z grT) row v; rw [hh]; exact q
    | clo f caps =>
      obtain ⟨rfl, us, q1, q2⟩ := hx
      exact plain rfl rfl rfl rfl fun grT hh => ⟨us, q1, capsFz_ok (by rw [hh]; exact q2)⟩
    | own agg row =>
      obtain ⟨gs, rfl, q2, q3, q4⟩ := hx
      refine rooted none gs rfl (by rw [q4]; simp [GR.exts, GR.base]) q2 (by intro b o hb; cases hb) (by intro b o hb; cases hb) ⟨[], rfl, fun q hq => by cases hq⟩ fun grT hm => ⟨_, hm, rfl, gs, ?_, q3⟩
      rw [absL_length]; exact whole gs
    | ino agg row =>
      obtain ⟨gs, rfl, q2, q3, q4⟩ := hx
      refine rooted none gs rfl (by rw [q4]; simp [GR.exts, GR.base]) q2 (by intro b o hb; cases hb) (by intro b o hb; cases hb) ⟨[⟨(i, 0), none, gs.map GV.val⟩], ⟨_, rfl, ?_⟩, fun q hq => ?_⟩ fun grT hm => ⟨_, hm, rfl, gs, ?_, q3⟩
      · cases agg with
        | true => exact q3
        | false => obtain ⟨g, rfl, rfl⟩ := q3; rfl
      · simp only [List.mem_singleton] at hq
        subst hq
        exact ⟨by simp [argPk], rfl, rfl, rfl⟩
      · rw [absL_length]; exact whole gs
    | ref row =>
      obtain ⟨b, o, gs, q1, rfl, q3, q4, q5, q6⟩ := hx
      refine rooted (some (b, o)) gs rfl (by rw [q6]; simp [GR.exts, GR.base]) q3 q4 (by intro b' o' hb; cases hb; exact q5) ⟨[⟨(i, 0), some (b, o), gs.map GV.val⟩], ⟨b, o, _, rfl, q1, by simp⟩, fun q hq => ?_⟩ fun grT hm => ⟨_, hm, rfl, (b, o), rfl, q1⟩
      simp only [List.mem_singleton] at hq
      subst hq
      exact ⟨by simp [argPk], rfl, rfl, rfl⟩

section
variable {P : Program} {T : Tab} (hT : TabOk P T) {Z : Nat → Nat → Prop} {w0 : World} {E0 : List Ext} {pins : List Pin} {gr0 : List GR} {a : Act} {w : World} {st0 : St}
include hT

/-- A result variable's value and cells. -/
theorem outVar_ok (h : Rel Z w0 E0 pins gr0 a w st0) {st st1 : St} {gr : List GR} {x : ResultVar} {agg : Bool} {row : List PV} (ho : outVar T st x = some (st1, agg, row))
    (henv : ∀ e, e ∈ st.env → e ∈ st0.env) (hr : st.roots = gr.map GR.root) (hs : ∀ R, R ∈ gr → R ∈ gr0) (hk : (gr.map GR.key).Nodup) :
    ∃ gr1 v gs D, st1.roots = gr1.map GR.root ∧ (∀ e, e ∈ st1.env → e ∈ st0.env) ∧ (∀ R, R ∈ gr1 → R ∈ gr) ∧ (gr1.map GR.key).Nodup ∧ (∀ k, k ∈ st.pk → ∀ R, R ∈ gr → R.key = k → R ∈ gr1) ∧ st1.pk = st.pk ∧
      (match x with
        | .tmp t => (Sem.pure (a.tmps.getD t undef) : Sem Value)
        | .cell t ty => do loadVar ty (← asAddr (a.tmps.getD t undef))).run P w = .ok v w ∧
      absL gs = row ∧ SatL w (OW Z gr0) gs ∧ Packed agg gs v ∧ (extsR gr).Perm (extsL gs ++ extsR gr1 ++ D) := by
  have hopv : ∀ {t : Nat} {tv : TV}, st.opv (.tmp t) = some tv → TVOk Z w gr0 (a.tmps.getD t undef) tv := by
    intro t tv htv
    exact (h.env _ (henv _ (lk_mem htv))).2
  have hroot : ∀ {k : Key} {R : Root}, rlk st.roots k = some R → ∃ S, S ∈ gr ∧ S.key = k ∧ R = S.root := by
    intro k R hR
    obtain ⟨q1, q2⟩ := rlk_mem hR
    rw [hr] at q1
    obtain ⟨S, hS, rfl⟩ := List.mem_map.1 q1
    exact ⟨S, hS, q2, rfl⟩
  unfold outVar at ho
  cases x with
  | tmp t =>
    simp only [] at ho
    split at ho
    · rename_i agg' row' hx
      cases ho
      obtain ⟨gs, q1, q2, q3, q4⟩ := hopv hx
      exact ⟨gr, _, gs, [], hr, henv, fun R h => h, hk, fun k _ R hR _ => hR, rfl, rfl, q1, q3, q4, by rw [GV.extsL_fz q2]; simp⟩
    · rename_i agg' r p n hx
      obtain ⟨R, hR, hkr, gs, hg, hv⟩ := hopv hx
      split at ho
      · rename_i S hS
        obtain ⟨R2, hR2, hr2, rfl⟩ := hroot hS
        obtain rfl := h.uniq (hs R2 hR2) hR (hr2.trans hkr.symm)
        cases hw : isWhole R2.root p n with
        | false => rw [hw] at ho; cases ho
        | true =>
          rw [hw] at ho
          simp only [cond_true] at ho
          cases hpk : hasKey st.pk r with
          | true => rw [hpk] at ho; cases ho
          | false =>
            rw [hpk] at ho
            cases ho
            unfold isWhole at hw
            split at hw
            · simp only [Bool.and_eq_true, Nat.beq_eq] at hw
              have hn : n = R2.row.length := by rw [hw.2]; simp [GR.root]
              have hl : R2.loc = none := by simpa [GR.root] using hw.1
              simp only [getG, Nat.zero_add, List.drop_zero] at hg
              rw [if_pos (by omega), hn, List.take_length] at hg
              cases hg
              refine ⟨gdel gr r, _, R2.row, [], ?_, ?_, fun S hS => (mem_gdel.1 hS).1, (gdel_keys hk).1, ?_, rfl, rfl, rfl, h.sat R2 hR, hv, ?_⟩
              · show delR st.roots r = _
                rw [hr, delR_root]
              · intro e he
                exact henv e (mem_keepE.1 he).1
              · intro k hk' S hS hSk
                refine mem_gdel.2 ⟨hS, fun e => ?_⟩
                exact hasKey_false hpk (by rw [← e, hSk]; exact hk')
              · have hp := gdel_perm_of hk hR2
                rw [hr2] at hp
                have : R2.exts = extsL R2.row := by simp [GR.exts, GR.base, hl]
                rw [this] at hp
                simpa using hp
            · cases hw
      · cases ho
    · cases ho
  | cell t ty =>
    simp only [] at ho
    split at ho
    · rename_i e r hte hx
      obtain ⟨R, hR, hkr, y, hy, hv⟩ := hopv hx
      split at ho
      · rename_i S hS
        obtain ⟨R2, hR2, hr2, rfl⟩ := hroot hS
        obtain rfl := h.uniq (hs R2 hR2) hR (hr2.trans hkr.symm)
        cases hw : (Nat.beq R2.root.row.length e.size && !R2.root.virt) with
        | false => rw [hw] at ho; cases ho
        | true =>
          rw [hw] at ho
          simp only [cond_true] at ho
          cases hpk : hasKey st.pk r with
          | true => rw [hpk] at ho; cases ho
          | false =>
            rw [hpk] at ho
            cases ho
            simp only [Bool.and_eq_true, Nat.beq_eq] at hw
            have hlen : R2.row.length = e.size := by rw [← hw.1]; simp [GR.root]
            have hy' : R2.loc = some y := by
              simp only [addrG, Nat.add_zero] at hy
              simpa using hy
            obtain ⟨b, o⟩ := y
            have hm := h.mem R2 hR
            rw [hy'] at hm
            obtain ⟨v, hv1, hv2⟩ := run_loadVar_mem (P := P) hT hte hm hlen
            refine ⟨gdel gr r, v, R2.row, R2.base, ?_, ?_, fun S hS => (mem_gdel.1 hS).1, (gdel_keys hk).1, ?_, rfl, ?_, rfl, h.sat R2 hR, hv2, ?_⟩
            · show delR st.roots r = _
              rw [hr, delR_root]
            · intro e he
              exact henv e (mem_keepE.1 he).1
            · intro k hk' S hS hSk
              refine mem_gdel.2 ⟨hS, fun e => ?_⟩
              exact hasKey_false hpk (by rw [← e, hSk]; exact hk')
            · simp only [hv, asAddr, addrOf, Sem.run_bind, Sem.run_pure, Result.andThen_ok]
              exact hv1
            · have hp := gdel_perm_of hk hR2
              rw [hr2] at hp
              refine hp.trans ?_
              simp only [GR.exts]
              rw [List.append_assoc]
              exact List.perm_append_comm
      · cases ho
    · cases ho
end

end Go.Proofs.YtddfcajdelfikaaDoor.Vm
