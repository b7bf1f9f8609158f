/- append; slice expressions on slices; strings and bytes. -/
import Derived.Test.YtddfcajdelfikaaDoorVm9
set_option linter.unusedVariables false
set_option linter.unusedSimpArgs false
set_option linter.unusedSectionVars false
namespace Go.Proofs.YtddfcajdelfikaaDoor.Vm
open Go
open GV (absL extsL fzL)
open PV (frzL)

def flatRow : List PV → Bool
  | [] => true
  | p :: r => p.isSc && flatRow r

structure Elems where
  n : Nat
  cells : List PV
  /-- the root that goes with them -/
  mv : Option Key

def elemsLeaf (sz : Nat) : Option (List PV) → Option Elems
  | some [.sl own sz' m cells] => if sz' = sz then (bif flatRow cells then some ⟨m, cells, none⟩ else none) else none
  | _ => none

def St.elems (T : Tab) (st : St) (t2 sz : Nat) (x : Operand) : Option Elems :=
  match T.get t2 with
  | some ⟨_, _, .slice _, _, _⟩ => match st.opv x with
    | some .nil => some ⟨0, [], none⟩
    | some (.val false [.sl false sz' m cells]) => if sz' = sz then some ⟨m, cells, none⟩ else none
    | some (.view false r p n) => match rlk st.roots r with
      | some R => bif isWhole R p n then (match R.row with
          | [.sl true sz' m cells] => if sz' = sz then some ⟨m, cells, some r⟩ else none
          | _ => none) else elemsLeaf sz (getP p R.row 1)
      | none => none
    | some (.win r p lo m) => match rlk st.roots r with
      | some R => match getP p R.row 1 with
        | some [.sl true sz' _ cells] => if sz' = sz then (bif flatRow cells then some ⟨m, sub cells (lo * sz) (m * sz), none⟩ else none) else none
        | _ => none
      | none => none
    | _ => none
  | some ⟨_, _, .str, _, _⟩ => match st.sc true x with
    | some (.str s) => if sz = 1 then some ⟨s.length, bytesPV s, none⟩ else none
    | _ => none
  | _ => none

/-- The state without the root that goes with the elements. -/
def St.mvDrop (st : St) : Option Key → St
  | none => st
  | some r => st.drop r

def evAppend (T : Tab) (st : St) (d t t2 : Nat) (s x : Operand) : Option (St × TV) :=
  match T.el t with
  | some e => match st.src (d, 1) [.sl true e.size 0 []] s with
    | some (false, st1, s1) => match st1.srcRow s1 with
      | some [.sl true sz n cells] => if sz = e.size then (match (st1.srcDrop s1).elems T t2 sz x with
        | some E => if (n + E.n) * e.bytes ≤ 140737488355328 ∧ n + E.n ≤ 9223372036854775807 then
            (match ((st1.srcDrop s1).mvDrop E.mv).add (d, 0) true [.sl true sz (n + E.n) (cells ++ E.cells)] with
            | some st2 => some (st2, .view false (d, 0) [0] 1)
            | none => none) else none
        | none => none) else none
      | _ => none
    | _ => none
  | none => none

section
variable {P : Program} {T : Tab} (hT : TabOk P T)

theorem run_append_in {w : World} {t t2 ty el : TypeId} {e : TE} {d2 : TypeDesc} (hu : P.underlying t = some (.slice el)) (hsz : (sizeOf el).run P w = .ok e.size w) (hu2 : P.underlying t2 = some d2) (hd2 : d2 = .string ∨ ∃ x, d2 = .slice x)
    {base : Option Addr} {n cap m : Nat} {xv : Value} {vals : List Value} (hlen : (Builtin.lenOf xv).run P w = .ok m w) (hfc : (Builtin.firstCells e.size m xv).run P w = .ok vals.toArray w) (hle : n + m ≤ cap) :
    (Builtin.append_ #[t, t2] ty #[.slice base n cap, xv]).run P w = match base with
      | some a => ((storeCells (a.add (n * e.size)) vals).run P w).andThen fun _ w' => .ok (.slice base (n + m) cap) w'
      | none => .ok (.slice none (n + m) cap) w := by
  unfold Builtin.append_
  rcases hd2 with rfl | ⟨x, rfl⟩ <;> cases base <;> simp [run_underlying hu, run_underlying hu2, hsz, hlen, hfc, hle]

theorem run_append_grow' {w : World} {t t2 ty el : TypeId} {e : TE} {d2 : TypeDesc} {inf : TypeInfo} {z : Value} (hu : P.underlying t = some (.slice el)) (hi : P.info? el = some inf) (hz : inf.zero = some z) (hs : inf.size = e.size) (hu2 : P.underlying t2 = some d2)
    (hd2 : d2 = .string ∨ ∃ x, d2 = .slice x)
    {base : Option Addr} {n cap m : Nat} {xv : Value} {olds vals : List Value} (hlen : (Builtin.lenOf xv).run P w = .ok m w) (hfc : (Builtin.firstCells e.size m xv).run P w.drew = .ok vals.toArray w.drew)
    (hold : (Builtin.firstCells e.size n (.slice base n cap)).run P w.drew = .ok olds.toArray w.drew) (hgt : cap < n + m) (hb : (n + m) * inf.bytes ≤ 140737488355328) (h63 : n + m ≤ 9223372036854775807) :
    (Builtin.append_ #[t, t2] ty #[.slice base n cap, xv]).run P w = .ok (.slice (some ⟨w.heap.size, 0, none⟩) (n + m) (grownCap w (n + m) cap el))
      (w.drew.alloc (.cells (olds ++ vals ++ (Builtin.zeroCells z.cells (grownCap w (n + m) cap el - (n + m))).toList).toArray el)) := by
  have hn : ¬ (n + m ≤ cap) := by omega
  have h63' : ¬ (9223372036854775807 < ((n : Int) + (m : Int))) := by omega
  have hfit := growslice_fits hgt hb
  have h48' : ¬ (281474976710656 < Builtin.nextslicecap (n + m) cap * inf.bytes) := by omega
  rcases hd2 with rfl | ⟨x, rfl⟩ <;>
    (simp [Builtin.append_, run_underlying hu, run_underlying hu2, sizeOf, typeInfo, zeroValue, hi, hz, hs, hlen, hn, h63', h48', Question.forced, hfc, hold, newRow, grownCap]
     congr 2
     apply Array.ext'
     simp [List.append_assoc])
end

section
variable {Z : Nat → Nat → Prop} {w0 : World} {E0 : List Ext} {pins : List Pin} {gr : List GR} {a : Act} {w : World} {st : St} {P : Program} {T : Tab} (hT : TabOk P T)

theorem flatRow_fz {O : Nat → Nat → Prop} : ∀ {gs : List GV}, SatL w O gs → flatRow (absL gs) = true → fzL gs
  | [], _, _ => trivial
  | g :: gs, hs, ho => by
    simp only [SatL] at hs
    simp only [GV.absL, flatRow, Bool.and_eq_true] at ho
    refine ⟨?_, flatRow_fz hs.2 ho.2⟩
    cases g with
    | sc => trivial
    | sl => simp [GV.abs, PV.isSc] at ho

theorem firstCells_mem {sz m len cap : Nat} {b o : Nat} {gc : List GV} (hm : Mem w (some (b, o)) gc) (hl : gc.length = m * sz) :
    (Builtin.firstCells sz m (.slice (some ⟨b, o, none⟩) len cap)).run P w = .ok (gc.map GV.val).toArray w := by
  simp only [Builtin.firstCells, ← hl]
  exact run_loadCells_mem hm

theorem mem_drew {base : Option (Nat × Nat)} {gc : List GV} (hm : Mem w base gc) : Mem w.drew base gc := hm

/-- What the elements of an append are, on the ghost's side. -/
structure ElemsOk (Z : Nat → Nat → Prop) (P : Program) (w : World) (gr : List GR) (sz : Nat) (xv : Value) (E : Elems) (gc : List GV) (gr' : List GR) (d2 : TypeDesc) : Prop where
  abs : absL gc = E.cells
  len : gc.length = E.n * sz
  sat : SatL w (OW Z gr) gc
  dd : d2 = .string ∨ ∃ x, d2 = .slice x
  lenOf : (Builtin.lenOf xv).run P w = .ok E.n w
  cells : ∀ w2, w2 = w ∨ w2 = w.drew → (Builtin.firstCells sz E.n xv).run P w2 = .ok (gc.map GV.val).toArray w2
  sl : (∃ x, d2 = TypeDesc.slice x) → ∃ A n c, xv = Value.slice A n c

theorem bytesPV_gv (s : List UInt8) : absL (s.map fun b => GV.sc (.int .u8 b.toNat) (.int .u8 b.toNat)) = bytesPV s := by
  rw [absL_eq, List.map_map]
  rfl

theorem satL_bytes (s : List UInt8) (O : Nat → Nat → Prop) : SatL w O (s.map fun b => GV.sc (.int .u8 b.toNat) (.int .u8 b.toNat)) := by
  refine SatL_iff.2 fun g hg => ?_
  obtain ⟨b, _, rfl⟩ := List.mem_map.1 hg
  simp [Sat, ScOk]

theorem extsL_bytes (s : List UInt8) : extsL (s.map fun b => GV.sc (.int .u8 b.toNat) (.int .u8 b.toNat)) = [] := by
  induction s with
  | nil => rfl
  | cons b s ih => simp [GV.extsL, GV.exts, ih]

include hT

/-- The elements: st2 is the state without the slice that grows (source s1), whose ghost is gd. -/
theorem Rel.gelems (h1 : Rel Z w0 E0 pins gr a w st) {s1 : Src} {gd : List GV} {gr0 : List GR} (sp : SrcSpec Z w st gr s1 gd gr0) {t2 sz : Nat} {x : Operand} {E : Elems} (he : (st.srcDrop s1).elems T t2 sz x = some E) :
    ∃ gc d2 gr00, P.underlying t2 = some d2 ∧ ElemsOk Z P w gr sz (a.eval x) E gc gr00 d2 ∧ SrcOk Z w gr gr00 (gd ++ gc) ∧
      ((st.srcDrop s1).mvDrop E.mv).roots = gr00.map GR.root ∧
      (∀ e, e ∈ ((st.srcDrop s1).mvDrop E.mv).env → e ∈ st.env ∧ KeepsTV gr gr00 e.2) := by
  have hopv : ∀ tv, (st.srcDrop s1).opv x = some tv → TVOk Z w gr (a.eval x) tv ∧ KeepsTV gr gr0 tv := by
    intro tv htv
    cases x with
    | tmp t =>
      obtain ⟨q1, q2⟩ := sp.env _ (lk_mem htv)
      exact ⟨(h1.env _ q1).2, q2⟩
    | const v =>
      refine ⟨constTV_ok htv, ?_⟩
      simp only [St.opv, constTV] at htv
      split at htv <;> cases htv <;> trivial
    | global g => cases htv
    | func f => cases htv; exact ⟨⟨[], rfl, trivial⟩, fun c hc => by cases hc⟩
  have hroot : ∀ {k : Key} {R : Root}, rlk (st.srcDrop s1).roots k = some R → ∃ S, S ∈ gr0 ∧ S ∈ gr ∧ S.key = k ∧ R = S.root := by
    intro k R hR
    obtain ⟨q1, q2⟩ := rlk_mem hR
    rw [sp.roots] at q1
    obtain ⟨S, hS, rfl⟩ := List.mem_map.1 q1
    exact ⟨S, hS, sp.mem S hS, q2, rfl⟩
  -- frozen elements
  have frozen : ∀ (gc : List GV) (d2 : TypeDesc), E.mv = none → P.underlying t2 = some d2 → ElemsOk Z P w gr sz (a.eval x) E gc gr0 d2 → extsL gc = [] →
      ∃ gc d2 gr00, P.underlying t2 = some d2 ∧ ElemsOk Z P w gr sz (a.eval x) E gc gr00 d2 ∧ SrcOk Z w gr gr00 (gd ++ gc) ∧
      ((st.srcDrop s1).mvDrop E.mv).roots = gr00.map GR.root ∧
      (∀ e, e ∈ ((st.srcDrop s1).mvDrop E.mv).env → e ∈ st.env ∧ KeepsTV gr gr00 e.2) := by
    intro gc d2 hmv hu hok hex
    refine ⟨gc, d2, gr0, hu, hok, ⟨sp.ok.like, ?_, SatL_append.2 ⟨sp.ok.sat, hok.sat⟩, sp.ok.keys⟩, ?_, ?_⟩
    · obtain ⟨D, hD⟩ := sp.ok.perm
      exact ⟨D, by rw [extsL_append, hex, List.append_nil]; exact hD⟩
    · rw [hmv]; exact sp.roots
    · rw [hmv]; exact sp.env
  have leaf : ∀ {r : Key} {p : List Nat} {R : GR}, R ∈ gr → R.key = r → ∀ {v : Value} {row : List PV}, getP p R.root.row 1 = some row → (∃ gs, getG p R.row 1 = some gs ∧ Packed false gs v) →
      ∀ {own : Bool} {sz' m : Nat} {cells : List PV}, row = [.sl own sz' m cells] → ∃ cap y gcells, v = .slice (y.map addrOf) m cap ∧ absL gcells = cells ∧ Sat w (OW Z gr) (.sl own sz' m cap y gcells) := by
    intro r p R hR hr v row hrow hv own sz' m cells hrw
    subst hrw
    obtain ⟨gs, hg, g, rfl, rfl⟩ := hv
    obtain ⟨gs', hg', he'⟩ := getP_getG hT h1 (G := true) rfl hR hrow
    rw [hg] at hg'
    cases hg'
    have hs := getG_sat (h1.sat R hR) hg
    simp only [GV.absL, List.cons.injEq, and_true] at he'
    simp only [SatL, and_true] at hs
    obtain ⟨cap, y, gcells, rfl, e⟩ := slLeaf hT h1 (G := true) rfl hs he'
    exact ⟨cap, y, gcells, rfl, e, hs⟩
  -- reading a leaf's cells
  have rdleaf : ∀ {own : Bool} {m cap : Nat} {y : Option (Nat × Nat)} {gcells : List GV} {v : Value} (c' : Nat), v = .slice (y.map addrOf) m c' → Sat w (OW Z gr) (.sl own sz m cap y gcells) →
      (Builtin.lenOf v).run P w = .ok m w ∧ ∀ w2, w2 = w ∨ w2 = w.drew → (Builtin.firstCells sz m v).run P w2 = .ok (gcells.map GV.val).toArray w2 := by
    intro own m cap y gcells v c' hv hs
    simp only [Sat] at hs
    obtain ⟨s1', s2, s3, s4, s5, s6, s7⟩ := hs
    subst hv
    refine ⟨by simp [Builtin.lenOf], fun w2 hw2 => ?_⟩
    cases y with
    | none =>
      have := (s3 rfl).1
      subst this
      have hnil : gcells = [] := List.eq_nil_of_length_eq_zero (by simpa using s1')
      subst hnil
      simp [Builtin.firstCells]
    | some y =>
      obtain ⟨b, o⟩ := y
      have hm2 : Mem w2 (some (b, o)) gcells := by rcases hw2 with rfl | rfl <;> exact s4
      exact firstCells_mem hm2 s1'
  unfold St.elems at he
  split at he
  · rename_i el _ ht2
    have hu2 := (hT t2 _ ht2).kind
    split at he
    · rename_i hx
      cases he
      have hv : a.eval x = .slice none 0 0 := (hopv _ hx).1
      refine frozen [] _ rfl hu2 ⟨rfl, by simp, trivial, .inr ⟨_, rfl⟩, by rw [hv]; simp [Builtin.lenOf], fun w2 _ => by rw [hv]; simp [Builtin.firstCells], fun _ => ⟨_, _, _, hv⟩⟩ rfl
    · rename_i sz' m cells hx
      split at he
      · rename_i hsz
        cases he
        subst hsz
        obtain ⟨gs, q1, q2, q3, g, rfl, hv⟩ := (hopv _ hx).1
        simp only [GV.absL, List.cons.injEq, and_true] at q1
        simp only [SatL, and_true] at q3
        obtain ⟨cap, y, gcells, rfl, rfl⟩ := slLeaf hT h1 (G := true) rfl q3 q1
        simp only [GV.fzL, GV.fz, and_true] at q2
        obtain ⟨r1, r2⟩ := rdleaf cap hv q3
        have q3' := q3
        simp only [Sat] at q3'
        exact frozen gcells _ rfl hu2 ⟨rfl, q3'.1, q3'.2.2.2.2.2.2, .inr ⟨_, rfl⟩, r1, r2, fun _ => ⟨_, _, _, hv⟩⟩ (GV.extsL_fz q2.2)
      · cases he
    · rename_i r p n hx
      obtain ⟨⟨R, hR, hr, gs, hg, hv⟩, hkeep⟩ := hopv _ hx
      split at he
      · rename_i S hS
        obtain ⟨R2, hR20, hR2, hr2, rfl⟩ := hroot hS
        obtain rfl := h1.uniq hR2 hR (hr2.trans hr.symm)
        cases hw : isWhole R2.root p n with
        | true =>
          rw [hw] at he
          simp only [cond_true] at he
          split at he
          · rename_i sz' m cells hrow
            split at he
            · rename_i hsz
              cases he
              subst hsz
              unfold isWhole at hw
              split at hw
              · simp only [Bool.and_eq_true, Nat.beq_eq] at hw
                have hn : n = R2.row.length := by rw [hw.2]; simp [GR.root]
                have hloc : R2.loc = none := by simpa [GR.root] using hw.1
                have hrow' : absL R2.row = [.sl true sz' m cells] := hrow
                have hlen1 : R2.row.length = 1 := by rw [← absL_length, hrow']; rfl
                obtain ⟨g, hg1⟩ := List.length_eq_one_iff.1 hlen1
                rw [hg1] at hrow'
                simp only [GV.absL, List.cons.injEq, and_true] at hrow'
                have hsR := h1.sat R2 hR
                rw [hg1] at hsR
                simp only [SatL, and_true] at hsR
                obtain ⟨cap, y, gcells, rfl, rfl⟩ := slLeaf hT h1 (G := true) rfl hsR hrow'
                simp only [getG, Nat.zero_add, List.drop_zero] at hg
                rw [if_pos (by omega), hn, List.take_length, hg1] at hg
                cases hg
                obtain ⟨g, hgg, hv⟩ := hv
                cases hgg
                obtain ⟨r1, r2⟩ := rdleaf cap hv hsR
                have hsR' := hsR
                simp only [Sat] at hsR'
                refine ⟨gcells, _, gdel gr0 r, hu2, ⟨rfl, hsR'.1, hsR'.2.2.2.2.2.2, .inr ⟨_, rfl⟩, r1, r2, fun _ => ⟨_, _, _, hv⟩⟩, ?_, ?_, ?_⟩
                · obtain ⟨D, hD⟩ := sp.ok.perm
                  refine ⟨fun S hS => sp.ok.like S (mem_gdel.1 hS).1, ⟨ownExt true y ++ D, ?_⟩, SatL_append.2 ⟨sp.ok.sat, hsR'.2.2.2.2.2.2⟩, (gdel_keys sp.ok.keys).1⟩
                  have hp := gdel_perm_of sp.ok.keys hR20
                  rw [hr2] at hp
                  have hex : R2.exts = ownExt true y ++ extsL gcells := by
                    simp only [GR.exts, GR.base, hloc, hg1, GV.extsL, GV.exts, List.nil_append, List.append_nil]
                  rw [hex] at hp
                  refine hD.trans (((hp.append_right _).append_right _).trans ?_)
                  rw [extsL_append]
                  generalize ownExt true y = A
                  generalize extsL gcells = B
                  generalize extsR (gdel gr0 r) = Z
                  generalize extsL gd = G
                  -- A B Z G D ~ Z G B A D
                  have e1 : (A ++ B ++ Z ++ G).Perm (Z ++ (G ++ B) ++ A) := by
                    have q1 : (A ++ B ++ Z ++ G).Perm (A ++ (Z ++ (G ++ B))) := by
                      simp only [List.append_assoc]
                      refine List.Perm.append_left A ?_
                      have : (B ++ (Z ++ G)).Perm ((Z ++ G) ++ B) := List.perm_append_comm
                      simpa only [List.append_assoc] using this
                    exact q1.trans List.perm_append_comm
                  have := e1.append_right D
                  simpa only [List.append_assoc] using this
                · show delR (st.srcDrop s1).roots r = _
                  rw [sp.roots, delR_root]
                · intro e he
                  obtain ⟨q1, q2⟩ := mem_keepE.1 he
                  obtain ⟨q3, q4⟩ := sp.env e q1
                  exact ⟨q3, KeepsTV.trans q4 (TV.not_on (fun S hS hne => mem_gdel.2 ⟨hS, hne⟩) (by simpa using q2))⟩
              · cases hw
            · cases he
          · cases he
        | false =>
          rw [hw] at he
          simp only [cond_false] at he
          unfold elemsLeaf at he
          split at he
          · rename_i own sz' m cells hrow
            split at he
            · rename_i hsz
              cases hfl : flatRow cells with
              | false => rw [hfl] at he; cases he
              | true =>
                rw [hfl] at he
                cases he
                subst hsz
                have hn1 : getG p R2.row 1 = some gs := by
                  obtain ⟨g, hgg, _⟩ := hv
                  subst hgg
                  have := getG_length hg
                  simp at this
                  rw [this]
                  exact hg
                obtain ⟨cap, y, gcells, hv', rfl, hs⟩ := leaf hR hr hrow ⟨gs, hn1, hv⟩ rfl
                obtain ⟨r1, r2⟩ := rdleaf cap hv' hs
                have hs' := hs
                simp only [Sat] at hs'
                exact frozen gcells _ rfl hu2 ⟨rfl, hs'.1, hs'.2.2.2.2.2.2, .inr ⟨_, rfl⟩, r1, r2, fun _ => ⟨_, _, _, hv'⟩⟩ (GV.extsL_fz (flatRow_fz hs'.2.2.2.2.2.2 hfl))
            · cases he
          · cases he
      · cases he
    · rename_i r p lo m hx
      obtain ⟨⟨R, hR, hr, sz2, m2, cap2, y2, cells2, A, c, hg, hlo, hnc, hv, hA⟩, hkeep⟩ := hopv _ hx
      split at he
      · rename_i S hS
        obtain ⟨R2, hR20, hR2, hr2, rfl⟩ := hroot hS
        obtain rfl := h1.uniq hR2 hR (hr2.trans hr.symm)
        split at he
        · rename_i sz' n' cells hrow
          split at he
          · rename_i hsz
            cases hfl : flatRow cells with
            | false => rw [hfl] at he; cases he
            | true =>
              rw [hfl] at he
              cases he
              subst hsz
              obtain ⟨cap, y, gcells, hv', rfl, hs⟩ := leaf hR hr hrow ⟨_, hg, _, rfl, rfl⟩ rfl
              obtain ⟨gs', hg', he'⟩ := getP_getG hT h1 (G := true) rfl hR hrow
              rw [hg] at hg'
              cases hg'
              simp only [GV.absL, GV.abs, List.cons.injEq, PV.sl.injEq, and_true, true_and] at he'
              obtain ⟨rfl, rfl, he'⟩ := he'
              have hs2 := getG_sat (h1.sat _ hR) hg
              simp only [SatL, and_true] at hs2
              have hs' := hs2
              simp only [Sat] at hs'
              have hfz := flatRow_fz hs'.2.2.2.2.2.2 (by rw [he']; exact hfl)
              have hml : m ≤ c := hnc
              have hsublen : ((cells2.drop (lo * sz2)).take (m * sz2)).length = m * sz2 := by
                simp only [List.length_take, List.length_drop, hs'.1]
                have : lo * sz2 + m * sz2 ≤ m2 * sz2 := by rw [← Nat.add_mul]; exact Nat.mul_le_mul_right _ hlo
                omega
              refine frozen ((cells2.drop (lo * sz2)).take (m * sz2)) _ rfl hu2 ⟨?_, hsublen, SatL_iff.2 fun g hg => SatL_iff.1 hs'.2.2.2.2.2.2 g (List.mem_of_mem_drop (List.mem_of_mem_take hg)), .inr ⟨_, rfl⟩, by rw [hv]; simp [Builtin.lenOf], ?_, fun _ => ⟨_, _, _, hv⟩⟩
                (GV.extsL_fz (fzL_iff.2 fun g hg => fzL_iff.1 hfz g (List.mem_of_mem_drop (List.mem_of_mem_take hg))))
              · rw [absL_take, absL_drop, he']; rfl
              · intro w2 hw2
                rw [hv]
                rcases Nat.eq_zero_or_pos m with h0 | h0
                · subst h0
                  cases A <;> simp [Builtin.firstCells, loadCells, loadCellsFrom]
                · obtain ⟨b, o, rfl, rfl⟩ := hA.2.1 h0
                  refine firstCells_mem ?_ hsublen
                  intro b' o' hb i g hg
                  cases hb
                  rw [List.getElem?_take] at hg
                  split at hg
                  · rw [List.getElem?_drop] at hg
                    have := hs'.2.2.2.1 _ _ rfl _ g hg
                    rw [← Nat.add_assoc] at this
                    rcases hw2 with rfl | rfl <;> exact this
                  · cases hg
          · cases he
        · cases he
      · cases he
    · cases he
  · rename_i ht2
    have hu2 := (hT t2 _ ht2).kind
    split at he
    · rename_i s hs
      split at he
      · rename_i hsz
        cases he
        subst hsz
        have hv : a.eval x = .string ⟨s.toArray⟩ := by
          unfold St.sc at hs
          split at hs
          · rename_i q hq
            cases hs
            unfold St.opg at hq
            split at hq
            · rename_i g tv' htv
              have := (hopv _ htv).1
              cases g with
              | false => cases hq
              | true =>
                cases hq
                obtain ⟨gs, q1, q2, q3, g, rfl, hv⟩ := this.1 rfl
                simp only [GV.absL, List.cons.injEq, and_true] at q1
                simp only [SatL, and_true] at q3
                rw [hv, sat_str q3 q1]
            · obtain ⟨gs, q1, q2, q3, g, rfl, hv⟩ := (hopv _ hq).1
              simp only [GV.absL, List.cons.injEq, and_true] at q1
              simp only [SatL, and_true] at q3
              rw [hv, sat_str q3 q1]
          · cases hs
        refine frozen (s.map fun b => GV.sc (.int .u8 b.toNat) (.int .u8 b.toNat)) _ rfl hu2 ⟨bytesPV_gv s, by simp, satL_bytes s _, .inl rfl, by rw [hv]; simp [Builtin.lenOf, size_mk], fun w2 _ => ?_, fun ⟨_, hx⟩ => (by cases hx)⟩ (extsL_bytes s)
        rw [hv]
        have hx := extract_mk s 0 s.length
        simp only [List.drop_zero, List.take_length] at hx
        simp only [Builtin.firstCells, hx, Sem.run_pure]
        congr 1
        apply Array.ext'
        simp [GV.val]
      · cases he
    · cases he
  · cases he
end

end Go.Proofs.YtddfcajdelfikaaDoor.Vm
