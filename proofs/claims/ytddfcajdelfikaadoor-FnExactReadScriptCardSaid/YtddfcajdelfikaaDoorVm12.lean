/- Slice expressions on slices; bytes as a string; closures; max and min; struct equality. -/
import Derived.Test.YtddfcajdelfikaaDoorVm11
import Derived.Laws.BytesString
import Derived.Laws.StructEq
set_option linter.unusedVariables false
set_option linter.unusedSimpArgs false
set_option linter.unusedSectionVars false
namespace Go.Proofs.YtddfcajdelfikaaDoor.Vm
open Go
open GV (absL extsL fzL)
open PV (frzL)

def evSliceSl (T : Tab) (st : St) (G : Bool) (t : Nat) (x : Operand) (lo hi : Option Operand) : Option TV :=
  match T.el t, st.opg G x with
  | some e, some (.val false [.sl false sz n cells]) => if sz = e.size then (match bound st G 0 lo, bound st G n hi with
      | some l, some h => chk G (decide (0 ≤ l) && decide (l ≤ h) && decide (h ≤ n)) (some (.val false [.sl false sz (h.toNat - l.toNat) (sub cells (l.toNat * sz) ((h.toNat - l.toNat) * sz))]))
      | _, _ => none) else none
  | some e, some (.view false r p 1) => match rlk st.roots r with
    | some R => match getP p R.row 1 with
      | some [.sl true sz n cells] => if sz = e.size then (match bound st G 0 lo, bound st G n hi with
        | some l, some h => chk G (decide (0 ≤ l) && decide (l ≤ h) && decide (h ≤ n)) (some (.win r p l.toNat (h.toNat - l.toNat)))
        | _, _ => none) else none
      | some [.sl false sz n cells] => if sz = e.size then (match bound st G 0 lo, bound st G n hi with
        | some l, some h => chk G (decide (0 ≤ l) && decide (l ≤ h) && decide (h ≤ n)) (some (.val false [.sl false sz (h.toNat - l.toNat) (sub cells (l.toNat * sz) ((h.toNat - l.toNat) * sz))]))
        | _, _ => none) else none
      | _ => none
    | none => none
  | some e, some (.win r p lo0 n) => match rlk st.roots r with
    | some R => match getP p R.row 1 with
      | some [.sl true sz _ cells] => if sz = e.size then (match bound st G 0 lo, bound st G n hi with
        | some l, some h => chk G (decide (0 ≤ l) && decide (l ≤ h) && decide (h ≤ n)) (some (.win r p (lo0 + l.toNat) (h.toNat - l.toNat)))
        | _, _ => none) else none
      | _ => none
    | none => none
  | _, _ => none

def evBytesStr (T : Tab) (st : St) (src dst : Nat) (x : Operand) : Option TV :=
  match T.el src, T.get dst with
  | some ⟨_, _, .int .u8, _, _⟩, some ⟨_, _, .str, _, _⟩ => match st.elems T src 1 x with
    | some E => match toBytes E.cells with
      | some s => some (.val false [.str s])
      | none => none
    | none => none
  | _, _ => none

def capOf (st : St) (x : Operand) : Option Cap :=
  match st.opv x with
  | some (.adr r p) => some (.adr r p)
  | some (.fadr row) => some (.fadr row)
  | _ => none

def capsOf (st : St) : List Operand → Option (List Cap)
  | [] => some []
  | x :: r => match capOf st x, capsOf st r with
    | some c, some l => some (c :: l)
    | _, _ => none

def evMaxMin (isMax : Bool) (st : St) (G : Bool) (x y : Operand) : Option TV :=
  match st.sc G x, st.sc G y with
  | some (.int k a), some (.int _ b) => some (.val false [.int k (bif isMax then (if b > a then b else a) else (if b < a then b else a))])
  | some (.str a), some (.str b) => bif isMax then some (.val false [.str (if Op.bytesLess a b then b else a)]) else none
  | _, _ => none

section
variable {Z : Nat → Nat → Prop} {w0 : World} {E0 : List Ext} {pins : List Pin} {gr : List GR} {a : Act} {w : World} {st : St} {P : Program} {T : Tab} (hT : TabOk P T)
include hT

theorem sliceBounds_ok (h : Rel Z w0 E0 pins gr a w st) {G : Bool} (hG : G = true) {n cap : Nat} (hnc : n ≤ cap) {lo hi : Option Operand} {l hv : Int} (hl : bound st G 0 lo = some l) (hh : bound st G n hi = some hv)
    (k1 : 0 ≤ l) (k2 : l ≤ hv) (k3 : hv ≤ n) : (Instr.sliceBounds true n cap (lo.map a.eval) (hi.map a.eval) none).run P w = .ok (l.toNat, hv.toNat, cap) w := by
  have b2 := bound_ok (P := P) hT h hG (y := hv.toNat) hl k1 (by omega) .sliceB
  have b1 : (match hi.map a.eval with
      | some v => Instr.sliceBound v cap .sliceAcap
      | none => pure n : Sem Nat).run P w = .ok hv.toNat w := by
    unfold bound at hh
    cases hi with
    | none =>
      simp only [Option.some.injEq] at hh
      subst hh
      simp
    | some x =>
      simp only [] at hh
      split at hh
      · rename_i k i hx
        cases hh
        simp only [Option.map_some, h.int hx hG]
        exact run_sliceBound w k hv cap _ (by omega) (by omega)
      · cases hh
  cases hi <;> cases lo <;> simp only [Option.map_some, Option.map_none, Sem.run_pure, Result.ok.injEq, and_true] at b1 b2 <;>
    simp [Instr.sliceBounds, b1, b2]

theorem run_sliceSl {t el : TypeId} {e : TE} (hu : P.underlying t = some (.slice el)) (hel : T.get el = some e) {A : Option Addr} {n cap : Nat} {lo hi : Option Value} {l h : Nat}
    (hb : (Instr.sliceBounds true n cap lo hi none).run P w = .ok (l, h, cap) w) :
    (Instr.sliceAt t (.slice A n cap) lo hi none).run P w = .ok (.slice (if cap = l then A else A.map (·.add (l * e.size))) (h - l) (cap - l)) w := by
  have h1 : (Instr.sliceAt t (.slice A n cap) lo hi none).run P w = (Instr.slice t (.slice A n cap) lo hi none).run P w := by
    simp [Instr.sliceAt, run_underlying hu]
  rw [h1]
  simp only [Instr.slice, Sem.run_bind, run_underlying hu, Result.andThen_ok, hb, run_size hT w hel, Sem.run_pure]

omit hT in
theorem frozen_sub {O : Nat → Nat → Prop} {sz n cap : Nat} {y : Option (Nat × Nat)} {gcells : List GV} (hs : Sat w O (.sl false sz n cap y gcells)) {l h : Nat} (hlh : l ≤ h) (hh : h ≤ n) :
    ∃ y', Sat w O (.sl false sz (h - l) (cap - l) y' ((gcells.drop (l * sz)).take ((h - l) * sz))) ∧
      y'.map addrOf = (if cap = l then y.map addrOf else (y.map addrOf).map (·.add (l * sz))) := by
  simp only [Sat] at hs
  obtain ⟨s1, s2, s3, s4, s5, s6, s7⟩ := hs
  have hlen : ((gcells.drop (l * sz)).take ((h - l) * sz)).length = (h - l) * sz := by
    simp only [List.length_take, List.length_drop, s1]
    have : l * sz + (h - l) * sz ≤ n * sz := by rw [← Nat.add_mul]; exact Nat.mul_le_mul_right _ (by omega)
    omega
  have hfz : fzL ((gcells.drop (l * sz)).take ((h - l) * sz)) := fzL_iff.2 fun g hg => fzL_iff.1 (s6 trivial) g (List.mem_of_mem_drop (List.mem_of_mem_take hg))
  have hsat : SatL w O ((gcells.drop (l * sz)).take ((h - l) * sz)) := SatL_iff.2 fun g hg => SatL_iff.1 s7 g (List.mem_of_mem_drop (List.mem_of_mem_take hg))
  by_cases hc : cap = l
  · have h0 : h - l = 0 := by omega
    refine ⟨y, ?_, by rw [if_pos hc]⟩
    have hnil : (gcells.drop (l * sz)).take ((h - l) * sz) = [] := by rw [h0]; simp
    rw [hnil] at hsat ⊢
    simp only [Sat]
    refine ⟨by simp [h0], by omega, fun hy => ⟨h0, by omega⟩, ?_, ?_, fun _ => trivial, trivial⟩
    · intro b o hb i g hg; simp at hg
    · intro b o hb
      exact ⟨fun h => absurd h (by decide), fun _ i hi => absurd hi (by simp)⟩
  · cases y with
    | none => have := s3 rfl; exact absurd (by omega : cap = l) hc
    | some y =>
      obtain ⟨b, o⟩ := y
      refine ⟨some (b, o + l * sz), ?_, by rw [if_neg hc]; simp [addrOf, Addr.add_lit]⟩
      simp only [Sat]
      refine ⟨hlen, by omega, fun h => (by cases h), ?_, ?_, fun _ => hfz, hsat⟩
      · intro b' o' hb i g hg
        cases hb
        rw [List.getElem?_take] at hg
        split at hg
        · rw [List.getElem?_drop] at hg
          have := s4 b o rfl _ g hg
          rwa [← Nat.add_assoc] at this
        · cases hg
      · intro b' o' hb
        cases hb
        refine ⟨fun h => absurd h (by decide), fun _ i hi => ?_⟩
        rw [hlen] at hi
        rw [Nat.add_assoc]
        refine (s5 b o rfl).2 trivial _ ?_
        rw [s1]
        have : l * sz + (h - l) * sz ≤ n * sz := by rw [← Nat.add_mul]; exact Nat.mul_le_mul_right _ (by omega)
        omega

omit hT in
theorem win_room2 (a A y' : Option (Nat × Nat)) (n cap c l h sz : Nat) (h1 : l ≤ h) (h2 : h ≤ n) (h3 : n ≤ c) (w3 : c ≠ l → y' = A.map fun x => (x.1, x.2 + l * sz)) (w4 : c = l → y' = A)
    (hA : ∀ b o', A = some (b, o') → ∃ o, a = some (b, o) ∧ o' + c * sz ≤ o + cap * sz) : ∀ b o', y' = some (b, o') → ∃ o, a = some (b, o) ∧ o' + (c - l) * sz ≤ o + cap * sz := by
  intro b o' hy
  by_cases hc : c = l
  · rw [w4 hc] at hy
    obtain ⟨o, e1, e2⟩ := hA b o' hy
    refine ⟨o, e1, ?_⟩
    have : (c - l) * sz ≤ c * sz := Nat.mul_le_mul_right _ (by omega)
    omega
  · rw [w3 hc] at hy
    cases A with
    | none => cases hy
    | some x =>
      obtain ⟨b1, o1⟩ := x
      simp only [Option.map_some, Option.some.injEq, Prod.mk.injEq] at hy
      obtain ⟨rfl, rfl⟩ := hy
      obtain ⟨o, e1, e2⟩ := hA b1 o1 rfl
      refine ⟨o, e1, ?_⟩
      have : l * sz + (c - l) * sz = c * sz := by rw [← Nat.add_mul]; congr 1; omega
      omega

omit hT in
theorem win_room (y y' : Option (Nat × Nat)) (n cap l h sz : Nat) (h1 : l ≤ h) (h2 : h ≤ n) (h3 : n ≤ cap) (w3 : cap ≠ l → y' = y.map fun x => (x.1, x.2 + l * sz)) (w4 : cap = l → y' = y) :
    ∀ b o', y' = some (b, o') → ∃ o, y = some (b, o) ∧ o' + (cap - l) * sz ≤ o + cap * sz :=
  win_room2 y y y' n cap cap l h sz h1 h2 h3 w3 w4 fun b o' hy => ⟨o', hy, Nat.le_refl _⟩

omit hT in
theorem win_addr (y : Option (Nat × Nat)) (n cap l h sz : Nat) (hy : y = none → n = 0 ∧ cap = 0) (h1 : l ≤ h) (h2 : h ≤ n) (h3 : n ≤ cap) :
    ∃ y', (if cap = l then y.map addrOf else (y.map addrOf).map (·.add (l * sz))) = y'.map addrOf ∧ (y' = none → h - l = 0 ∧ cap - l = 0) ∧ (cap ≠ l → y' = y.map fun x => (x.1, x.2 + l * sz)) ∧ (cap = l → y' = y) := by
  by_cases hc : cap = l
  · exact ⟨y, by rw [if_pos hc], fun _ => by omega, fun h => absurd hc h, fun _ => rfl⟩
  · refine ⟨y.map fun x => (x.1, x.2 + l * sz), ?_, ?_, fun _ => rfl, fun h => absurd h hc⟩
    · rw [if_neg hc]
      cases y with
      | none => rfl
      | some y => simp [addrOf, Addr.add_lit]
    · intro hn
      cases y with
      | none => have := hy rfl; omega
      | some y => cases hn

theorem evSliceSl_ok (h : Rel Z w0 E0 pins gr a w st) {G : Bool} (hG : G = true) {t : Nat} {x : Operand} {lo hi : Option Operand} {tv : TV} (he : evSliceSl T st G t x lo hi = some tv) :
    ∃ v, (Instr.sliceAt t (a.eval x) (lo.map a.eval) (hi.map a.eval) none).run P w = .ok v w ∧ TVOk Z w gr v tv := by
  have frozen : ∀ {e : TE} {sz n cap : Nat} {y : Option (Nat × Nat)} {gcells : List GV} {l hv : Int}, T.el t = some e → sz = e.size → a.eval x = .slice (y.map addrOf) n cap → Sat w (OW Z gr) (.sl false sz n cap y gcells) →
      bound st G 0 lo = some l → bound st G n hi = some hv → 0 ≤ l → l ≤ hv → hv ≤ n →
      ∃ v, (Instr.sliceAt t (a.eval x) (lo.map a.eval) (hi.map a.eval) none).run P w = .ok v w ∧ TVOk Z w gr v (.val false [.sl false sz (hv.toNat - l.toNat) (sub (absL gcells) (l.toNat * sz) ((hv.toNat - l.toNat) * sz))]) := by
    intro e sz n cap y gcells l hv hte hsz hxv hs hl hh k1 k2 k3
    obtain ⟨el, hu, hel⟩ := el_ok hT hte
    have hs' := hs
    simp only [Sat] at hs'
    have hb := sliceBounds_ok hT h hG hs'.2.1 hl hh k1 k2 k3
    obtain ⟨y', q1, q2⟩ := frozen_sub hs (l := l.toNat) (h := hv.toNat) (by omega) (by omega)
    refine ⟨_, by rw [hxv]; exact run_sliceSl hT hu hel hb, [.sl false sz (hv.toNat - l.toNat) (cap - l.toNat) y' ((gcells.drop (l.toNat * sz)).take ((hv.toNat - l.toNat) * sz))], ?_, ?_, by simpa [SatL] using q1, _, rfl, ?_⟩
    · simp only [GV.absL, GV.abs, absL_take, absL_drop]; rfl
    · simp only [Sat] at q1
      simp only [GV.fzL, GV.fz, and_true]
      exact ⟨trivial, q1.2.2.2.2.2.1 trivial⟩
    · simp only [GV.val, q2, hsz]
  unfold evSliceSl at he
  split at he
  · rename_i e sz n cells hte hx
    split at he
    · rename_i hsz
      split at he
      · rename_i l hv hl hh
        obtain ⟨hk, he⟩ := chk_true hG he
        cases he
        simp only [Bool.and_eq_true, decide_eq_true_eq] at hk
        obtain ⟨gs, h1, h2, h3, g, rfl, hv'⟩ := h.opg hx hG
        simp only [GV.absL, List.cons.injEq, and_true] at h1
        simp only [SatL, and_true] at h3
        obtain ⟨cap, y, gcells, rfl, rfl⟩ := slLeaf hT h hG h3 h1
        exact frozen hte hsz hv' h3 hl hh hk.1.1 hk.1.2 hk.2
      · cases he
    · cases he
  · rename_i e r p hte hx
    obtain ⟨R, hR, hr, gs, hg, hv'⟩ := h.opg hx hG
    split at he
    · rename_i S hS
      split at he
      · rename_i sz n cells hrow
        split at he
        · rename_i hsz
          split at he
          · rename_i l hv hl hh
            obtain ⟨hk, he⟩ := chk_true hG he
            cases he
            simp only [Bool.and_eq_true, decide_eq_true_eq] at hk
            obtain ⟨⟨k1, k2⟩, k3⟩ := hk
            obtain ⟨cap, y, gcells, hg2, rfl⟩ := leafAt hT h hG hS hrow hR hr
            rw [hg2] at hg
            cases hg
            obtain ⟨g, hgg, hv'⟩ := hv'
            cases hgg
            have hs := getG_sat (h.sat _ hR) hg2
            simp only [SatL, and_true] at hs
            have hs' := hs
            simp only [Sat] at hs'
            obtain ⟨el, hu, hel⟩ := el_ok hT hte
            have hb := sliceBounds_ok hT h hG hs'.2.1 hl hh k1 k2 k3
            obtain ⟨y', w1, w2, w3, w4⟩ := win_addr y n cap l.toNat hv.toNat sz hs'.2.2.1 (by omega) (by omega) hs'.2.1
            refine ⟨_, by rw [hv']; exact run_sliceSl hT hu hel hb, R, hR, hr, sz, n, cap, y, gcells, y', cap - l.toNat, hg2, by omega, by omega, by rw [← w1, hsz], w2, fun h0 => ?_, ?_⟩
            · have hne : cap ≠ l.toNat := by omega
              rw [w3 hne]
              cases y with
              | none => have := hs'.2.2.1 rfl; omega
              | some y =>
                obtain ⟨b, o⟩ := y
                exact ⟨b, o, rfl, by simp⟩
            · exact win_room y y' n cap l.toNat hv.toNat sz (by omega) (by omega) hs'.2.1 w3 w4
          · cases he
        · cases he
      · rename_i sz n cells hrow
        split at he
        · rename_i hsz
          split at he
          · rename_i l hv hl hh
            obtain ⟨hk, he⟩ := chk_true hG he
            cases he
            simp only [Bool.and_eq_true, decide_eq_true_eq] at hk
            obtain ⟨cap, y, gcells, hg2, rfl⟩ := leafAt hT h hG hS hrow hR hr
            rw [hg2] at hg
            cases hg
            obtain ⟨g, hgg, hv'⟩ := hv'
            cases hgg
            have hs := getG_sat (h.sat _ hR) hg2
            simp only [SatL, and_true] at hs
            exact frozen hte hsz hv' hs hl hh hk.1.1 hk.1.2 hk.2
          · cases he
        · cases he
      · cases he
    · cases he
  · rename_i e r p lo0 n hte hx
    obtain ⟨R, hR, hr, sz', m', cap', y', cells', A, c, hg, hlo, hnc, hv', hA⟩ := h.opg hx hG
    split at he
    · rename_i S hS
      split at he
      · rename_i sz m cells hrow
        split at he
        · rename_i hsz
          split at he
          · rename_i l hv hl hh
            obtain ⟨hk, he⟩ := chk_true hG he
            cases he
            simp only [Bool.and_eq_true, decide_eq_true_eq] at hk
            obtain ⟨⟨k1, k2⟩, k3⟩ := hk
            obtain ⟨cap, y, gcells, hg2, rfl⟩ := leafAt hT h hG hS hrow hR hr
            rw [hg2] at hg
            cases hg
            obtain ⟨el, hu, hel⟩ := el_ok hT hte
            have hb := sliceBounds_ok hT h hG hnc hl hh k1 k2 k3
            obtain ⟨y2, w1, w2, w3, w4⟩ := win_addr A _ c l.toNat hv.toNat e.size hA.1 (by omega) (by omega) hnc
            refine ⟨_, by rw [hv']; exact run_sliceSl hT hu hel hb, R, hR, hr, _, _, _, _, _, y2, c - l.toNat, hg2, by omega, by omega, by rw [← w1], w2, fun h0 => ?_, ?_⟩
            · have hne : c ≠ l.toNat := by omega
              obtain ⟨b, o, rfl, rfl⟩ := hA.2.1 (by omega)
              refine ⟨b, o, rfl, ?_⟩
              rw [w3 hne]
              simp [hsz, Nat.add_mul, Nat.add_assoc]
            · have h6 := hA.2.2
              rw [hsz] at h6 ⊢
              exact win_room2 _ A y2 n _ c l.toNat hv.toNat _ (by omega) (by omega) hnc w3 w4 h6
          · cases he
        · cases he
      · cases he
    · cases he
  · cases he

omit hT in
theorem toBytes_ok {O : Nat → Nat → Prop} : ∀ {gc : List GV} {s : List UInt8}, SatL w O gc → toBytes (absL gc) = some s →
    ∃ ns : List Int, gc.map GV.val = ns.map (Value.int .u8) ∧ ∀ b0 : ByteArray, ns.foldl (fun r n => r.push (UInt8.ofNat n.toNat)) b0 = ⟨b0.data ++ s.toArray⟩
  | [], s, _, h => by simp only [GV.absL, toBytes] at h; cases h; exact ⟨[], rfl, fun b0 => by simp⟩
  | g :: gc, s, hs, h => by
    simp only [SatL] at hs
    simp only [GV.absL] at h
    cases hg : g.abs with
    | int k n =>
      rw [hg] at h
      cases k <;> simp only [toBytes] at h <;> try (cases h; done)
      split at h
      · cases ht : toBytes (absL gc) with
        | none => rw [ht] at h; cases h
        | some s' =>
          rw [ht] at h
          cases h
          obtain ⟨ns, q1, q2⟩ := toBytes_ok hs.2 ht
          refine ⟨n :: ns, by simp [q1, sat_int hs.1 hg], fun b0 => ?_⟩
          simp only [List.foldl_cons, q2]
          apply ByteArray.ext
          simp [ByteArray.push]
      · cases h
    | bool b => rw [hg] at h; simp [toBytes] at h
    | str b => rw [hg] at h; simp [toBytes] at h
    | sl => rw [hg] at h; simp [toBytes] at h
    | dead => rw [hg] at h; simp [toBytes] at h

theorem evBytesStr_ok (h : Rel Z w0 E0 pins gr a w st) {src dst : Nat} {x : Operand} {tv : TV} (he : evBytesStr T st src dst x = some tv) :
    ∃ v, (convert src dst (a.eval x)).run P w = .ok v w ∧ TVOk Z w gr v tv := by
  unfold evBytesStr at he
  split at he
  · rename_i hte htd
    split at he
    · rename_i E hE
      split at he
      · rename_i s hs
        cases he
        obtain ⟨el, hu, hel⟩ := el_ok hT hte
        have hue := (hT el _ hel).kind
        have hud := (hT dst _ htd).kind
        have sp := srcSpec_fro (row := []) h (gs := []) trivial rfl
        obtain ⟨gc, d2, gr00, hu2, hok, _⟩ := h.gelems hT sp hE
        rw [← hok.abs] at hs
        obtain ⟨ns, q1, q2⟩ := toBytes_ok hok.sat hs
        refine ⟨_, ?_, tv_sc (p := .str s) rfl⟩
        have hd2 : d2 = .slice el := by rw [hu] at hu2; exact (Option.some.inj hu2).symm
        have hfc := hok.cells w (.inl rfl)
        have hln := hok.lenOf
        obtain ⟨A, n, c, hxv⟩ := hok.sl ⟨el, hd2⟩
        rw [hxv] at hfc hln
        · rw [hxv]
          rw [run_convert_bytes_string w src dst el A n c hu hue hud]
          have hn : n = E.n := by simpa [Builtin.lenOf] using hln
          subst hn
          cases A with
          | none =>
            simp only [Builtin.firstCells, Sem.run_pure, Result.ok.injEq, and_true] at hfc
            have : ns = [] := by
              have h1 : (gc.map GV.val) = [] := by simpa using hfc.symm
              rw [q1] at h1
              simpa using h1
            have h2 := q2 ByteArray.empty
            rw [this] at h2
            simp only [Conv.bytesToString, Sem.run_pure, PV.toV]
            have h3 : (ByteArray.empty : ByteArray) = ⟨s.toArray⟩ := by
              have h4 : (ByteArray.empty : ByteArray) = ⟨ByteArray.empty.data ++ s.toArray⟩ := h2
              rw [h4]
              apply ByteArray.ext
              simp
            rw [h3]
          | some A =>
            simp only [Builtin.firstCells, Nat.mul_one] at hfc
            rw [q1] at hfc
            rw [run_bytesToString w A E.n c ns hfc, q2, PV.toV]
            congr 2
            apply ByteArray.ext
            simp
      · cases he
    · cases he
  · cases he

omit hT in
theorem caps_ok (h : Rel Z w0 E0 pins gr a w st) : ∀ {l : List Operand} {caps : List Cap}, capsOf st l = some caps → CapsOk Z w gr (l.map a.eval) caps
  | [], _, hc => by simp only [capsOf] at hc; cases hc; trivial
  | x :: l, _, hc => by
    simp only [capsOf] at hc
    split at hc
    · rename_i c l' h1 h2
      cases hc
      refine ⟨?_, caps_ok h h2⟩
      unfold capOf at h1
      split at h1
      · rename_i r p hx
        cases h1
        exact h.opv hx
      · rename_i row hx
        cases h1
        exact h.opv hx
      · cases h1
    · cases hc

theorem evMaxMin_ok (h : Rel Z w0 E0 pins gr a w st) {G : Bool} (hG : G = true) {ts : Array TypeId} {t : TypeId} {x y : Operand} {tv : TV} {isMax : Bool} (he : evMaxMin isMax st G x y = some tv) :
    ∃ v, (bif isMax then Builtin.max_ ts t #[a.eval x, a.eval y] else Builtin.min_ ts t #[a.eval x, a.eval y]).run P w = .ok v w ∧ TVOk Z w gr v tv := by
  unfold evMaxMin at he
  split at he
  · rename_i k x' k' y' hx hy
    cases he
    refine ⟨_, ?_, tv_sc (p := .int k _) rfl⟩
    rw [h.int hx hG, h.int hy hG]
    cases isMax with
    | true => simp [Builtin.max_, Builtin.max2, PV.toV]
    | false => simp [Builtin.min_, Builtin.min2, PV.toV]
  · rename_i x' y' hx hy
    cases isMax with
    | false => cases he
    | true =>
      cases he
      refine ⟨_, ?_, tv_sc (p := .str _) rfl⟩
      rw [h.str hx hG, h.str hy hG]
      cases hb : Op.bytesLess x' y' <;> simp [Builtin.max_, Builtin.max2, PV.toV, Op.stringOp, toList_mk, hb, asBool]
  · cases he
end

end Go.Proofs.YtddfcajdelfikaaDoor.Vm
